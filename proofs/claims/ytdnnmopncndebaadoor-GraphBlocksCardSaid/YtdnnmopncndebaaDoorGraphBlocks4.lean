/-
Part 4 of the proof of GraphBlocks: merged by mkclaim.py (a program of this repo) out of texts of wip/g and printed models.
-/
import Derived.Test.YtdnnmopncndebaaDoorGraphBlocks3
import Derived.Test.YtdnnmopncndebaaDoorProg
import Derived.KernelRfl
import Derived.WalkKit
import Derived.ProofKit
import Derived.OpenShut
import Derived.ChangeOld
import Derived.Below
import Derived.Carry
import Derived.SizedLaws
set_option linter.unusedVariables false
namespace Go.Proofs.YtdnnmopncndebaaDoor.G
theorem mix : Tryd.prog.follows .mixedOrders = true := by kernel_rfl
@[go_sem] theorem t3_size : sizeT Tryd.prog 3 = some 1 := by kernel_rfl
@[go_sem] theorem t3_bytes : bytesT Tryd.prog 3 = some 8 := by kernel_rfl
@[go_sem] theorem t3_agg : aggT Tryd.prog 3 = some false := by kernel_rfl
@[go_sem] theorem t3_u : Tryd.prog.underlying 3 = some (.int .i64) := by kernel_rfl
@[go_sem] theorem t3_zero : zeroT Tryd.prog 3 = some [.atom (.int .i64 0)] := by kernel_rfl
@[go_sem] theorem t3_zsize : zsizeT Tryd.prog 3 = some 1 := by kernel_rfl
@[go_sem] theorem t4_size : sizeT Tryd.prog 4 = some 1 := by kernel_rfl
@[go_sem] theorem t4_agg : aggT Tryd.prog 4 = some false := by kernel_rfl
@[go_sem] theorem t4_u : Tryd.prog.underlying 4 = some .bool := by kernel_rfl
@[go_sem] theorem t4_zero : zeroT Tryd.prog 4 = some [.atom (.bool false)] := by kernel_rfl
@[go_sem] theorem t22_size : sizeT Tryd.prog 22 = some 1 := by kernel_rfl
@[go_sem] theorem t22_agg : aggT Tryd.prog 22 = some false := by kernel_rfl
@[go_sem] theorem t22_elem : elemT Tryd.prog 22 = some 34 := by kernel_rfl
@[go_sem] theorem t22_u : Tryd.prog.underlying 22 = some (.slice 34) := by kernel_rfl
@[go_sem] theorem t22_arr : arrT Tryd.prog 22 = none := by kernel_rfl
@[go_sem] theorem t23_size : sizeT Tryd.prog 23 = some 1 := by kernel_rfl
@[go_sem] theorem t23_bytes : bytesT Tryd.prog 23 = some 8 := by kernel_rfl
@[go_sem] theorem t23_agg : aggT Tryd.prog 23 = some false := by kernel_rfl
@[go_sem] theorem t23_u : Tryd.prog.underlying 23 = some (.int .u64) := by kernel_rfl
@[go_sem] theorem t23_zero : zeroT Tryd.prog 23 = some [.atom (.int .u64 0)] := by kernel_rfl
@[go_sem] theorem t23_zsize : zsizeT Tryd.prog 23 = some 1 := by kernel_rfl
@[go_sem] theorem t30_elem : elemT Tryd.prog 30 = some 23 := by kernel_rfl
@[go_sem] theorem t30_u : Tryd.prog.underlying 30 = some (.slice 23) := by kernel_rfl
@[go_sem] theorem t30_arr : arrT Tryd.prog 30 = none := by kernel_rfl
@[go_sem] theorem t34_size : sizeT Tryd.prog 34 = some 5 := by kernel_rfl
@[go_sem] theorem t34_bytes : bytesT Tryd.prog 34 = some 56 := by kernel_rfl
@[go_sem] theorem t34_agg : aggT Tryd.prog 34 = some true := by kernel_rfl
@[go_sem] theorem t34_zero : zeroT Tryd.prog 34 = some [.atom (.int .i64 0), .slice .full [], .atom (.int .u64 0), .atom (.int .u64 0), .atom (.int .u64 0)] := by kernel_rfl
@[go_sem] theorem t34_zsize : zsizeT Tryd.prog 34 = some 5 := by kernel_rfl
@[go_sem] theorem t34_f3 : fieldT Tryd.prog 34 3 = some (23, 3) := by kernel_rfl
@[go_sem] theorem t34_f4 : fieldT Tryd.prog 34 4 = some (23, 4) := by kernel_rfl
@[go_sem] theorem t41_size : sizeT Tryd.prog 41 = some 1 := by kernel_rfl
@[go_sem] theorem t41_agg : aggT Tryd.prog 41 = some false := by kernel_rfl
@[go_sem] theorem t41_elem : elemT Tryd.prog 41 = some 3 := by kernel_rfl
@[go_sem] theorem t41_u : Tryd.prog.underlying 41 = some (.slice 3) := by kernel_rfl
@[go_sem] theorem t41_arr : arrT Tryd.prog 41 = none := by kernel_rfl
@[go_sem] theorem t41_zero : zeroT Tryd.prog 41 = some [.slice .full []] := by kernel_rfl
@[go_sem] theorem t52_u : Tryd.prog.underlying 52 = some (.int .u64) := by kernel_rfl
theorem fn_3 : Tryd.prog.funcs[3]? = some Tryd.f3 := by kernel_rfl
theorem fn_4 : Tryd.prog.funcs[4]? = some Tryd.f4 := by kernel_rfl
theorem fn_5 : Tryd.prog.funcs[5]? = some Tryd.f5 := by kernel_rfl
theorem ok_5 : okFn Tryd.f5 = true := by kernel_rfl
theorem fn_6 : Tryd.prog.funcs[6]? = some Tryd.f6 := by kernel_rfl
theorem ok_6 : okFn Tryd.f6 = true := by kernel_rfl
theorem fn_7 : Tryd.prog.funcs[7]? = some Tryd.f7 := by kernel_rfl
theorem fn_8 : Tryd.prog.funcs[8]? = some Tryd.f8 := by kernel_rfl
theorem ok_8 : okFn Tryd.f8 = true := by kernel_rfl
theorem fn_9 : Tryd.prog.funcs[9]? = some Tryd.f9 := by kernel_rfl
theorem fn_10 : Tryd.prog.funcs[10]? = some Tryd.f10 := by kernel_rfl
theorem fn_11 : Tryd.prog.funcs[11]? = some Tryd.f11 := by kernel_rfl
theorem ok_11 : okFn Tryd.f11 = true := by kernel_rfl
theorem fn_12 : Tryd.prog.funcs[12]? = some Tryd.f12 := by kernel_rfl
theorem fn_13 : Tryd.prog.funcs[13]? = some Tryd.f13 := by kernel_rfl
theorem fn_14 : Tryd.prog.funcs[14]? = some Tryd.f14 := by kernel_rfl
theorem fn_15 : Tryd.prog.funcs[15]? = some Tryd.f15 := by kernel_rfl
theorem ok_15 : okFn Tryd.f15 = true := by kernel_rfl
theorem fn_16 : Tryd.prog.funcs[16]? = some Tryd.f16 := by kernel_rfl
theorem ok_16 : okFn Tryd.f16 = true := by kernel_rfl
theorem fn_17 : Tryd.prog.funcs[17]? = some Tryd.f17 := by kernel_rfl
theorem fn_18 : Tryd.prog.funcs[18]? = some Tryd.f18 := by kernel_rfl
theorem ok_18 : okFn Tryd.f18 = true := by kernel_rfl
theorem fn_19 : Tryd.prog.funcs[19]? = some Tryd.f19 := by kernel_rfl
theorem ok_19 : okFn Tryd.f19 = true := by kernel_rfl
theorem fn_20 : Tryd.prog.funcs[20]? = some Tryd.f20 := by kernel_rfl
theorem fn_21 : Tryd.prog.funcs[21]? = some Tryd.f21 := by kernel_rfl
theorem fn_22 : Tryd.prog.funcs[22]? = some Tryd.f22 := by kernel_rfl
theorem ok_22 : okFn Tryd.f22 = true := by kernel_rfl
theorem fn_23 : Tryd.prog.funcs[23]? = some Tryd.f23 := by kernel_rfl
theorem ok_23 : okFn Tryd.f23 = true := by kernel_rfl
theorem fn_24 : Tryd.prog.funcs[24]? = some Tryd.f24 := by kernel_rfl
theorem fn_25 : Tryd.prog.funcs[25]? = some Tryd.f25 := by kernel_rfl
theorem fn_26 : Tryd.prog.funcs[26]? = some Tryd.f26 := by kernel_rfl
theorem fn_27 : Tryd.prog.funcs[27]? = some Tryd.f27 := by kernel_rfl
theorem ok_27 : okFn Tryd.f27 = true := by kernel_rfl
theorem fn_28 : Tryd.prog.funcs[28]? = some Tryd.f28 := by kernel_rfl
theorem ok_28 : okFn Tryd.f28 = true := by kernel_rfl
theorem fn_29 : Tryd.prog.funcs[29]? = some Tryd.f29 := by kernel_rfl
theorem ok_29 : okFn Tryd.f29 = true := by kernel_rfl
theorem fn_30 : Tryd.prog.funcs[30]? = some Tryd.f30 := by kernel_rfl
theorem fn_31 : Tryd.prog.funcs[31]? = some Tryd.f31 := by kernel_rfl
theorem fn_32 : Tryd.prog.funcs[32]? = some Tryd.f32 := by kernel_rfl
theorem ok_32 : okFn Tryd.f32 = true := by kernel_rfl
theorem fn_33 : Tryd.prog.funcs[33]? = some Tryd.f33 := by kernel_rfl
theorem ok_33 : okFn Tryd.f33 = true := by kernel_rfl
theorem fn_34 : Tryd.prog.funcs[34]? = some Tryd.f34 := by kernel_rfl
theorem ok_34 : okFn Tryd.f34 = true := by kernel_rfl
def okl : List Nat := [5, 6, 8, 11, 15, 16, 18, 19, 22, 23, 27, 28, 29, 32, 33, 34]
def okBits : Nat := 31017765216
set_option maxRecDepth 100000 in
theorem okl_ok : ∀ f ∈ okl, ∃ fn, Tryd.prog.funcs[f]? = some fn ∧ okFn fn = true := by
  simp only [okl, List.forall_mem_cons]
  exact ⟨⟨_, fn_5, ok_5⟩, ⟨_, fn_6, ok_6⟩, ⟨_, fn_8, ok_8⟩, ⟨_, fn_11, ok_11⟩, ⟨_, fn_15, ok_15⟩, ⟨_, fn_16, ok_16⟩, ⟨_, fn_18, ok_18⟩, ⟨_, fn_19, ok_19⟩, ⟨_, fn_22, ok_22⟩, ⟨_, fn_23, ok_23⟩, ⟨_, fn_27, ok_27⟩, ⟨_, fn_28, ok_28⟩, ⟨_, fn_29, ok_29⟩, ⟨_, fn_32, ok_32⟩, ⟨_, fn_33, ok_33⟩, ⟨_, fn_34, ok_34⟩, fun f h => by simp at h⟩
theorem okBits_ok (f : Nat) (h : okBits.testBit f = true) : ∃ fn, Tryd.prog.funcs[f]? = some fn ∧ okFn fn = true := by
  refine okl_ok f ?_
  have h1 : ∀ f, f < 55 → okBits.testBit f = true → f ∈ okl := by decide +kernel
  rcases Nat.lt_or_ge f 55 with h2 | h2
  · exact h1 f h2 h
  · exfalso
    have h3 : okBits < 2 ^ 55 := by decide +kernel
    rw [Nat.testBit_lt_two_pow (Nat.lt_of_lt_of_le h3 (Nat.pow_le_pow_right (by omega) h2))] at h
    cases h
end Go.Proofs.YtdnnmopncndebaaDoor.G
set_option linter.unusedVariables false
set_option linter.unusedSimpArgs false
namespace Go.Proofs.YtdnnmopncndebaaDoor.G

theorem flN : ∀ a ∈ ([] : List AV), Flat a := fun a h => by cases h
theorem flC {a : AV} {l : List AV} (h : Flat a) (hs : ∀ b ∈ l, Flat b) : ∀ b ∈ a :: l, Flat b := fun b hb => by
  rcases List.mem_cons.1 hb with rfl | hb
  · exact h
  · exact hs b hb

/-- A set of tables. -/
abbrev Set64 := BitVec 64
abbrev AV.set (s : Set64) : AV := .u64 s.toNat
theorem u64_bv (s : Set64) : BitVec.ofInt 64 (s.toNat : Int) = s := by
  apply BitVec.eq_of_toNat_eq
  simp [BitVec.toNat_ofInt]
theorem u64_wrap (s : Set64) : IntKind.u64.wrap (s.toNat : Int) = s.toNat := wrapu (by omega) (by have := s.isLt; omega)
@[go_sem ↓ high] theorem abin_set_and (P : Program) (xt : TypeId) (s t : Set64) : abin P .and xt (.set s) (.set t) = some (.set (s &&& t)) := by
  have fin := congrArg (fun x => some (AV.atom (.int .u64 x))) (u64_wrap (s &&& t))
  have : BitVec.ofInt IntKind.u64.bits (s.toNat : Int) &&& BitVec.ofInt IntKind.u64.bits (t.toNat : Int) = s &&& t := by
    show BitVec.ofInt 64 _ &&& BitVec.ofInt 64 _ = _
    rw [u64_bv, u64_bv]
  simp only [abin, aintop, if_true, this]
  exact fin
@[go_sem ↓ high] theorem abin_set_or (P : Program) (xt : TypeId) (s t : Set64) : abin P .or xt (.set s) (.set t) = some (.set (s ||| t)) := by
  have fin := congrArg (fun x => some (AV.atom (.int .u64 x))) (u64_wrap (s ||| t))
  have : BitVec.ofInt IntKind.u64.bits (s.toNat : Int) ||| BitVec.ofInt IntKind.u64.bits (t.toNat : Int) = s ||| t := by
    show BitVec.ofInt 64 _ ||| BitVec.ofInt 64 _ = _
    rw [u64_bv, u64_bv]
  simp only [abin, aintop, if_true, this]
  exact fin
@[go_sem ↓ high] theorem abin_set_andNot (P : Program) (xt : TypeId) (s t : Set64) : abin P .andNot xt (.set s) (.set t) = some (.set (s &&& ~~~t)) := by
  have fin := congrArg (fun x => some (AV.atom (.int .u64 x))) (u64_wrap (s &&& ~~~t))
  have : BitVec.ofInt IntKind.u64.bits (s.toNat : Int) &&& ~~~BitVec.ofInt IntKind.u64.bits (t.toNat : Int) = s &&& ~~~t := by
    show BitVec.ofInt 64 _ &&& ~~~BitVec.ofInt 64 _ = _
    rw [u64_bv, u64_bv]
  simp only [abin, aintop, if_true, this]
  exact fin
theorem set_eq (s t : Set64) : ((s.toNat : Int) == (t.toNat : Int)) = (s == t) := by
  rw [Bool.eq_iff_iff, beq_iff_eq, beq_iff_eq]
  constructor
  · intro h; exact BitVec.eq_of_toNat_eq (by omega)
  · rintro rfl; rfl
theorem flat_cells {x : AV} (h : Flat x) : ∀ c ∈ x.cells, Flat c := by
  cases h <;> intro c hc <;> simp only [AV.cells] at hc
  · simp at hc; subst hc; exact .atom _
  · simp at hc; subst hc; exact .slice _ _ (by assumption) (by assumption)
  · rename_i h; exact h c hc
  · simp at hc; subst hc; exact .tuple _ (by assumption)
  · simp at hc; subst hc; exact .func _ _ _ (by assumption) (by assumption)
  · simp at hc; subst hc; exact .iface _ _ (by assumption)
theorem flat_slice {α : Type} (f : α → AV) (h : ∀ x, Flat (f x)) (l : List α) : Flat (.slice .foreign (l.map f)) := .slice .foreign _ (fun id h => by cases h) (fun e he c hc => by
  obtain ⟨x, _, rfl⟩ := List.mem_map.1 he
  exact flat_cells (h x) c hc)
theorem Ext.mkB (b X : List ABox) (r : List (Option (Nat × List AV))) (μ : TypeId → Bool) : Ext ⟨b, r, μ⟩ ⟨b ++ X, r, μ⟩ := ⟨⟨X, rfl⟩, ⟨[], by simp⟩, rfl⟩
theorem getL {α : Type} {l : List α} {i : Nat} (h : i < l.length) : l[i]? = some l[i] := List.getElem?_eq_getElem h
theorem inc64 (i : Nat) (h : i < 9223372036854775807) : IntKind.i64.wrap ((i : Int) + 1) = ((i + 1 : Nat) : Int) := by rw [wrap64 (by omega) (by omega)]; rfl
end Go.Proofs.YtdnnmopncndebaaDoor.G
set_option linter.unusedVariables false
set_option linter.unusedSectionVars false
set_option linter.unusedSimpArgs false
namespace Go.Proofs.YtdnnmopncndebaaDoor.G

/-- A word. -/
def AV.w (s : Set64) : AV := .atom (.int .u64 s.toNat)
theorem w_lit (n : Int) (h : 0 ≤ n) (h' : n < 18446744073709551616) : AV.atom (.int .u64 n) = .w (BitVec.ofInt 64 n) := by
  simp only [AV.w, BitVec.toNat_ofInt]
  congr 2
  omega
@[go_sem] theorem atom_w (n : Int) (h : decide (0 ≤ n) = true) (h' : decide (n < 18446744073709551616) = true) : AV.atom (.int .u64 n) = .w (BitVec.ofInt 64 n) := w_lit n (of_decide_eq_true h) (of_decide_eq_true h')
@[go_sem ↓ high] theorem constAV_w (n : Int) (h : decide (0 ≤ n) = true) (h' : decide (n < 18446744073709551616) = true) : constAV (.int .u64 n) = some (.w (BitVec.ofInt 64 n)) := by
  rw [← atom_w n h h']; rfl
attribute [go_sem] BitVec.reduceOfInt Int.reduceLE Int.reduceLT decide_true
section
variable (P : Program) (xt : TypeId) (s t : Set64)
@[go_sem ↓ high] theorem abin_w_and : abin P .and xt (.w s) (.w t) = some (.w (s &&& t)) := abin_set_and P xt s t
@[go_sem ↓ high] theorem abin_w_or : abin P .or xt (.w s) (.w t) = some (.w (s ||| t)) := abin_set_or P xt s t
@[go_sem ↓ high] theorem abin_w_andNot : abin P .andNot xt (.w s) (.w t) = some (.w (s &&& ~~~t)) := abin_set_andNot P xt s t
theorem uwrap (n : Int) : IntKind.u64.wrap n = n % 18446744073709551616 := by simp [IntKind.wrap, IntKind.bits, IntKind.signed]
@[go_sem ↓ high] theorem abin_w_add : abin P .add xt (.w s) (.w t) = some (.w (s + t)) := by
  simp only [AV.w, abin, aintop, if_true, uwrap, BitVec.toNat_add]
  congr 3
@[go_sem ↓ high] theorem abin_w_mul : abin P .mul xt (.w s) (.w t) = some (.w (s * t)) := by
  simp only [AV.w, abin, aintop, if_true, uwrap, BitVec.toNat_mul]
  congr 3
@[go_sem ↓ high] theorem abin_w_quo : abin P .quo xt (.w s) (.w t) = if t = 0#64 then none else some (.w (s / t)) := by
  simp only [AV.w, abin, aintop, if_true, uwrap]
  by_cases h : t = 0#64
  · subst h; rfl
  · have h0 : (t.toNat : Int) ≠ 0 := fun e => h (BitVec.eq_of_toNat_eq (by simpa using e))
    rw [if_neg h0, if_neg h]
    have hs := s.isLt
    have hd : s.toNat / t.toNat ≤ s.toNat := Nat.div_le_self _ _
    have e1 : ((s.toNat : Int)).tdiv (t.toNat : Int) = ((s.toNat / t.toNat : Nat) : Int) := rfl
    have e2 : (s / t).toNat = s.toNat / t.toNat := BitVec.toNat_udiv
    rw [e1, e2]
    congr 3
    generalize s.toNat / t.toNat = q at hd ⊢
    omega
@[go_sem ↓ high] theorem abin_w_rem : abin P .rem xt (.w s) (.w t) = if t = 0#64 then none else some (.w (s % t)) := by
  simp only [AV.w, abin, aintop, if_true]
  by_cases h : t = 0#64
  · subst h; rfl
  · have h0 : (t.toNat : Int) ≠ 0 := fun e => h (BitVec.eq_of_toNat_eq (by simpa using e))
    rw [if_neg h0, if_neg h]
    have e1 : ((s.toNat : Int)).tmod (t.toNat : Int) = ((s.toNat % t.toNat : Nat) : Int) := rfl
    rw [e1, ← BitVec.toNat_umod]
@[go_sem ↓ high] theorem abin_w_eql : abin P .eql xt (.w s) (.w t) = some (.bool (s == t)) := by
  simp only [AV.w, abin, aintop, if_true, set_eq]
@[go_sem ↓ high] theorem abin_w_neq : abin P .neq xt (.w s) (.w t) = some (.bool (s != t)) := by
  simp only [AV.w, abin, aintop, if_true, bne, set_eq]
/-- A word moved up by a number's digits. -/
@[go_sem ↓ high] theorem abin_w_shl : abin P .shl xt (.w s) (.w t) = some (.w (s <<< t.toNat)) := by
  simp only [AV.w, abin, ashift, uwrap]
  rw [if_neg (by omega)]
  congr 3
  simp only [Int.toNat_natCast, BitVec.toNat_shiftLeft, Nat.shiftLeft_eq, IntKind.bits]
  rcases Nat.lt_or_ge t.toNat 64 with h | h
  · rw [Nat.min_eq_left (by omega)]
    simp
  · rw [Nat.min_eq_right (by omega)]
    obtain ⟨k, hk⟩ : ∃ k, t.toNat = 64 + k := ⟨t.toNat - 64, by omega⟩
    rw [hk, Nat.pow_add, ← Nat.mul_assoc, Nat.mul_right_comm]
    simp only [Nat.mul_mod_left]
    omega
end
@[go_sem] theorem AV.strip_w (s : Set64) : AV.strip (.w s) = .w s := rfl
@[go_sem] theorem AV.strip1_w (s : Set64) : AV.strip1 (.w s) = .w s := rfl
@[go_sem] theorem notTuple_w (s : Set64) : notTuple (.w s) = true := rfl
@[go_sem] theorem AV.cells_w (s : Set64) : AV.cells (.w s) = [.w s] := rfl
/-- Conversions. -/
@[go_sem ↓ high] theorem lconv_iw (P : Program) (a b : TypeId) (k : IntKind) (n : Int) (h1 : P.underlying a = some (.int k)) (h2 : P.underlying b = some (.int .u64)) : lconv P a b (.atom (.int k n)) = some (.w (BitVec.ofInt 64 n)) := by
  simp only [lconv, h1, h2, uwrap, AV.w, BitVec.toNat_ofInt]
  congr 3; omega
@[go_sem ↓ high] theorem lconv_wi (P : Program) (a b : TypeId) (s : Set64) (h1 : P.underlying a = some (.int .u64)) (h2 : P.underlying b = some (.int .i64)) : lconv P a b (.w s) = some (.i64 (w64 s.toNat)) := by
  simp only [AV.w, lconv, h1, h2]; rfl
attribute [go_sem] List.contains_nil List.contains_cons Nat.reduceBEq
end Go.Proofs.YtdnnmopncndebaaDoor.G
set_option linter.unusedVariables false
set_option linter.unusedSectionVars false
set_option linter.unusedSimpArgs false
namespace Go.Proofs.YtdnnmopncndebaaDoor.G

theorem nz_some {α : Type} {c : Prop} [Decidable c] {x : Option α} {r : α} (h : (if c then none else x) = some r) : ¬ c ∧ x = some r := by
  split at h
  · cases h
  · exact ⟨by assumption, h⟩
attribute [go_sem] BitVec.reduceEq BitVec.reduceBEq
end Go.Proofs.YtdnnmopncndebaaDoor.G
set_option linter.unusedVariables false
set_option linter.unusedSectionVars false
set_option linter.unusedSimpArgs false
namespace Go.Proofs.YtdnnmopncndebaaDoor.G

/-- What temporaries hold, where the variables have other names. -/
def vwT (τ : List (Nat × Nat)) : Option LV → LV → Prop
  | some (.v a), .v b => a = b
  | some (.lref t o), .lref t' o' => t = rn τ t' ∧ o = o'
  | some (.fn f a b), .fn f' a' b' => f = f' ∧ a = LAs.ren τ a' ∧ b = LAs.ren τ b'
  | _, _ => False
def vwTs (τ : List (Nat × Nat)) (S : List (Nat × LV)) : List (Nat × LV) → Prop
  | [] => True
  | (t, v) :: l => vwT τ (aget S t) v ∧ vwTs τ S l
def lputsS (S : List (Nat × LV)) : List Tmp → List AV → List (Nat × LV)
  | t :: ts, a :: ds => lputsS ((t, .v a) :: S) ts ds
  | _, _ => S
def noIter : List (Nat × LV) → Bool
  | [] => true
  | (_, .iter _) :: _ => false
  | _ :: l => noIter l
def LoOk (c : LCtx) (lo : Option Nat) : Prop := LoAt c.base lo ∧ ∀ l, lo = some l → ∀ p ∈ c.bs, p.2 ≠ l
def goodN (N N' : List (Nat × List CV)) : Bool := rnOk [] N' && (sameNames N N' && closedN N N')

variable [Mu]
section
variable {P : Program} {f : FuncId} {fr : Fro} {ℓ ℓ' : Nat → Nat} {ρ ρ' : Nat → Own} {c : LCtx} {L L' : LEnv} {env : List AV} {m m' : Mem} {lo : Option Nat} {σ : List (Nat × Option Nat)} {τ : List (Nat × Nat)} {N N' : List (Nat × List CV)}

theorem vwTs_get : ∀ {S' S : List (Nat × LV)}, vwTs τ S S' → ∀ t v, aget S' t = some v → vwT τ (aget S t) v := by
  intro S'
  induction S' with
  | nil => intro S _ t v h; cases h
  | cons x l ih =>
    obtain ⟨t0, v0⟩ := x
    intro S h t v hv
    simp only [aget] at hv
    split at hv
    · rename_i e; subst e; injection hv with hv; subst hv; exact h.1
    · exact ih h.2 t v hv
theorem LoOk.at_ (hlo : LoOk c lo) (h : RelW P fr ℓ ρ c L env m) : LoAt m lo := by
  cases lo with
  | none => trivial
  | some l =>
    obtain ⟨st, pend, e, ps, a, b, hb⟩ := hlo.1
    exact ⟨st, pend, e, ps, a, b, h.frame l _ hb fun p hp _ => hlo.2 l rfl p hp⟩
theorem LoOk.none (c : LCtx) : LoOk c none := ⟨trivial, fun l h => by cases h⟩
theorem LC.part {fn : Func} (hmix : P.follows .mixedOrders = true) (hf : P.funcs[f]? = some fn) {k : Nat} {Q : Exit → LEnv → Prop} (hd : okLPart fn k = true) (hn : env.length = ntmpsOf P f) (hr : Rel P c L env m)
    (h : LC P f lo c (slimC (k + 1) (partF fn k)) Q L) : ∃ x env' m', AExec P lo (partOf P f k) env m x env' m' ∧ UpQ P (ntmpsOf P f) c (Q x) env' m' := by
  simp only [okLPart, Bool.and_eq_true, decide_eq_true_eq] at hd
  have hbo : bodyOf P f = bodyF fn := by simp [bodyOf, bodyF, hf]
  have e1 : partOf P f k = partF fn k := by simp [partOf, partF, hbo]
  have e2 : fn.ntmps = ntmpsOf P f := by simp [ntmpsOf, hf]
  rw [← e1, e2, ← hbo] at hd
  rw [← e1] at h
  have h0 : (parts (bodyOf P f))[k]? = some (partOf P f k) := by
    have h1 : k < (parts (bodyOf P f)).length := by rw [nparts_eq]; exact hd.1
    simp [partOf, List.getElem?_eq_getElem h1]
  exact LC.exec hmix hn hr hd.2 (fun i hi => parts_within h0 i hi) h

def cOf (ℓ : Nat → Nat) (ρ : Nat → Own) (m : Mem) (N : List (Nat × List CV)) (hN : namesB N = true) : LCtx := ⟨m, bsOf ℓ N, fun id => ∃ i s es, TokIn N i s es ∧ ρ i = .row id, fun p hp => (bsOf_mem hN p hp).1⟩
theorem Held.rel (hmode : m.mode = seatMu) (hN : namesB N = true) (hh : Held ℓ ρ m N) {S : List (Nat × LV)} (hslot : ∀ t v, aget S t = some v → v ≠ .dead → ∃ a, env[t]? = some a ∧ SRel P [] ℓ ρ v a) (htok : ∀ t v, aget S t = some v → ∀ i s es, ¬ v.has i s es) :
    RelW P [] ℓ ρ (cOf ℓ ρ m N hN) ⟨S, N⟩ env m := by
  have visN : ∀ {i s es}, Vis ⟨S, N⟩ i s es → TokIn N i s es := by
    rintro i s es (⟨t, v, h4, h5⟩ | h4)
    · exact (htok t v h4 i s es h5).elim
    · exact h4
  refine ⟨hmode, hslot, hh.locs, fun i s es hv => hh.tok i s es (visN hv), fun i s es j s' es' hv hv' => hh.apart i s es j s' es' (visN hv) (visN hv'), hh.inj, fun p hp => ?_, fun t cs h4 => ?_, fun i s es hv id hid => .inr ⟨i, s, es, visN hv, hid⟩, ⟨Nat.le_refl _, Nat.le_refl _⟩, fun l b h4 _ => h4, fun id x h4 _ => h4, fun q hq => (by cases hq), fun q hq => (by cases hq)⟩
  · obtain ⟨_, h6, h7⟩ := bsOf_mem hN p hp
    exact ⟨h7, h6.symm⟩
  · exact .inr (.inl ⟨_, bsOf_has h4, rfl⟩)
theorem RelW.back (g3 : RelW P fr ℓ' ρ' c L env m') (hbs : c.bs = bsOf ℓ N) (hR : c.R0 = fun id => ∃ i s es, TokIn N i s es ∧ ρ i = .row id) (hN : namesB N = true) (g4 : sgOk σ = true) (g5 : vwN σ [] L.N N') (hg : goodN N N' = true) :
    Held ℓ (vρ σ ρ') m' N' ∧ Stays ℓ ρ c.base N (vρ σ ρ') m' N' := by
  simp only [goodN, Bool.and_eq_true] at hg
  obtain ⟨hn2, hn3, hn4⟩ := hg
  have hℓ : ∀ t cs, aget N t = some cs → ℓ' t = ℓ t := fun t cs ht => (g3.bor _ (by rw [hbs]; exact bsOf_has (ℓ := ℓ) ht)).2
  have hh' : Held ℓ' (vρ σ ρ') m' N' := g3.held.view (τ := []) g4 hn2 g5
  have hnm : ∀ t cs, aget N' t = some cs → ∃ k, aget N t = some k := fun t cs ht => sameNames_get hn3 t cs ht
  refine ⟨⟨fun t cs ht => ?_, hh'.tok, hh'.apart, fun t t' cs cs' h1 h2 h3 => ?_⟩, ⟨g3.mode, g3.len, fun l b hb hne => ?_, fun id x hx hne => ?_, fun i s es hi id hid => ?_⟩⟩
  · obtain ⟨ds, k1, k2⟩ := hh'.locs t cs ht
    obtain ⟨k, hk⟩ := hnm t cs ht
    rw [hℓ t k hk] at k1
    exact ⟨ds, k1, crels_inN hℓ (closedN_get hn4 t cs ht) k2⟩
  · obtain ⟨k, hk⟩ := hnm t cs h1
    obtain ⟨k', hk'⟩ := hnm t' cs' h2
    exact hh'.inj t t' cs cs' h1 h2 (by rw [hℓ t k hk, hℓ t' k' hk']; exact h3)
  · refine g3.frame l b hb (fun p hp hlt e => ?_)
    rw [hbs] at hp
    obtain ⟨_, k2, k, k3⟩ := bsOf_mem hN p hp
    exact hne p.1 k k3 hlt (by rw [← k2, e])
  · refine g3.rframe id x hx ?_
    rw [hR]
    exact (fun ⟨i, s, es, k1, k2⟩ => hne i s es k1 k2)
  · rcases vwN_tok g5 hi with k1 | ⟨i', k1, k2⟩
    · simp only [vρ, k1] at hid; cases hid
    · simp only [vρ, k1] at hid
      rcases g3.rlow i' s es k2.vis id hid with k3 | k3
      · exact .inl k3
      · rw [hR] at k3
        obtain ⟨i0, s0, es0, k3, k4⟩ := k3
        exact .inr ⟨i0, s0, es0, k3, k4⟩
theorem noIter_get : ∀ {S : List (Nat × LV)}, noIter S = true → ∀ t xs, aget S t ≠ some (.iter xs) := by
  intro S
  induction S with
  | nil => intro _ t xs h; cases h
  | cons x l ih =>
    obtain ⟨t0, v0⟩ := x
    intro h t xs hx
    simp only [aget] at hx
    split at hx
    · injection hx with hx; subst hx; simp [noIter] at h
    · exact ih (by cases v0 <;> first | exact h | (simp [noIter] at h)) t xs hx
theorem RelW.noFro (h : RelW P fr ℓ ρ c L env m) (hn : noIter L.S = true) : RelW P [] ℓ ρ c L env m := by
  refine { h with slot := fun t v h1 h2 => ?_, froz := ⟨fun q hq => (by cases hq), fun q hq => (by cases hq)⟩ }
  obtain ⟨a, h3, h4⟩ := h.slot t v h1 h2
  refine ⟨a, h3, ?_⟩
  cases v with
  | iter xs => exact (noIter_get hn t xs h1).elim
  | _ => exact h4
theorem RelW.setBase (h : RelW P [] ℓ ρ c L env m) {l : Nat} {b b0 : ABox} (hl : c.base.boxes[l]? = some b0) (hp : ∀ p ∈ c.bs, p.2 ≠ l) (hb0 : ∀ ds, b0 ≠ .cells ds) : RelW P [] ℓ ρ ⟨c.base.set l b, c.bs, c.R0, c.hb⟩ L env (m.set l b) := by
  have hm : m.boxes[l]? = some b0 := h.frame l b0 hl fun p h1 _ => hp p h1
  have hlb : l < c.base.boxes.length := (List.getElem?_eq_some_iff.1 hl).1
  have hlm : l < m.boxes.length := (List.getElem?_eq_some_iff.1 hm).1
  have hne : ∀ t cs, aget L.N t = some cs → ℓ t ≠ l := by
    intro t cs ht e
    obtain ⟨ds, h1, _⟩ := h.locs t cs ht
    rw [e, hm] at h1
    injection h1 with h1
    exact hb0 ds h1
  refine ⟨h.mode, h.slot, fun t cs ht => ?_, h.tok, h.apart, h.inj, h.bor, fun t cs ht => ?_, h.rlow, ?_, fun i x h1 h2 => ?_, h.rframe, ⟨fun q hq => (by cases hq), fun q hq => (by cases hq)⟩⟩
  · obtain ⟨ds, h1, h2⟩ := h.locs t cs ht
    refine ⟨ds, ?_, h2⟩
    simp only [Mem.set]
    rw [List.getElem?_set_ne (fun e => hne t cs ht e.symm)]; exact h1
  · have := h.low t cs ht
    simpa [Mem.set] using this
  · have := h.len
    simpa [Mem.set] using this
  · simp only [Mem.set] at h1 ⊢
    by_cases e : l = i
    · subst e
      rw [List.getElem?_set_self hlb] at h1
      rw [List.getElem?_set_self hlm]; exact h1
    · rw [List.getElem?_set_ne e] at h1 ⊢
      exact h.frame i x h1 h2

theorem Held.ext (h : Held ℓ ρ m N) (he : Ext m m') : Held ℓ ρ m' N := by
  refine ⟨fun t cs ht => ?_, fun i s es hi => ?_, h.apart, h.inj⟩
  · obtain ⟨ds, h1, h2⟩ := h.locs t cs ht
    exact ⟨ds, he.get h1, h2⟩
  · obtain ⟨_, ⟨x, hx⟩, _⟩ := he
    refine (h.tok i s es hi).mono fun id _ y h2 => ?_
    rw [hx, List.getElem?_append_left (List.getElem?_eq_some_iff.1 h2).1]; exact h2
theorem Held.set {l : Nat} (b : ABox) (h : Held ℓ ρ m N) (hl : ∀ t cs, aget N t = some cs → ℓ t ≠ l) : Held ℓ ρ (m.set l b) N := by
  refine ⟨fun t cs ht => ?_, h.tok, h.apart, h.inj⟩
  obtain ⟨ds, h1, h2⟩ := h.locs t cs ht
  refine ⟨ds, ?_, h2⟩
  simp only [Mem.set]
  rw [List.getElem?_set_ne (fun e => hl t cs ht e.symm)]; exact h1
theorem Stays.ext2 {m0 : Mem} (h : Stays ℓ ρ m0 N ρ' m N') (he : Ext m m') : Stays ℓ ρ m0 N ρ' m' N' := by
  obtain ⟨⟨x, hx⟩, ⟨y, hy⟩, hm⟩ := he
  refine ⟨by rw [hm]; exact h.mode, ⟨?_, ?_⟩, fun l b h1 h2 => ?_, fun id z h1 h2 => ?_, h.rlow⟩
  · have := h.len.1; rw [hx]; simp; omega
  · have := h.len.2; rw [hy]; simp; omega
  · have h3 := h.frame l b h1 h2
    rw [hx, List.getElem?_append_left (List.getElem?_eq_some_iff.1 h3).1]; exact h3
  · have h3 := h.rframe id z h1 h2
    rw [hy, List.getElem?_append_left (List.getElem?_eq_some_iff.1 h3).1]; exact h3
theorem Stays.set {m0 : Mem} {l : Nat} (b : ABox) (h : Stays ℓ ρ m0 N ρ' m N') (hl : m0.boxes.length ≤ l) : Stays ℓ ρ m0 N ρ' (m.set l b) N' := by
  refine ⟨h.mode, by have := h.len; simpa [Mem.set] using this, fun i x h1 h2 => ?_, h.rframe, h.rlow⟩
  have := (List.getElem?_eq_some_iff.1 h1).1
  simp only [Mem.set]
  rw [List.getElem?_set_ne (by omega)]
  exact h.frame i x h1 h2
theorem Stays.trans {m0 : Mem} {l : Nat} {b : ABox} {N2 : List (Nat × List CV)} {ρ2 : Nat → Own} {m2 : Mem} (h : Stays ℓ ρ m0 N ρ' m N') (k : Stays ℓ ρ' (m.set l b) N' ρ2 m2 N2) (hl : m0.boxes.length ≤ l) (hn : ∀ t cs, aget N' t = some cs → ∃ cs', aget N t = some cs') : Stays ℓ ρ m0 N ρ2 m2 N2 := by
  refine ⟨k.mode, ⟨?_, ?_⟩, fun i x h1 h2 => ?_, fun id x h1 h2 => ?_, fun i s es h1 id hid => ?_⟩
  · have h1 := h.len.1; have h2 := k.len.1; simp [Mem.set] at h2; omega
  · have h1 := h.len.2; have h2 := k.len.2; simp [Mem.set] at h2; omega
  · have := (List.getElem?_eq_some_iff.1 h1).1
    refine k.frame i x ?_ (fun t cs ht hlt => ?_)
    · simp only [Mem.set]
      rw [List.getElem?_set_ne (by omega)]
      exact h.frame i x h1 h2
    · obtain ⟨cs', h3⟩ := hn t cs ht
      exact h2 t cs' h3 hlt
  · have := (List.getElem?_eq_some_iff.1 h1).1
    refine k.rframe id x (h.rframe id x h1 h2) (fun i s es hi e => ?_)
    rcases h.rlow i s es hi id e with h3 | ⟨i0, s0, es0, h3, h4⟩
    · omega
    · exact h2 i0 s0 es0 h3 h4
  · rcases k.rlow i s es h1 id hid with h3 | ⟨i0, s0, es0, h3, h4⟩
    · have h4 := h.len.2; simp [Mem.set] at h3; exact .inl (by omega)
    · exact h.rlow i0 s0 es0 h3 id h4
theorem namesB_same : ∀ {N N' : List (Nat × List CV)}, sameNames N N' = true → namesB N = true → namesB N' = true := by
  intro N
  induction N with
  | nil => intro N' h _; cases N' with
    | nil => rfl
    | cons y l' => simp [sameNames] at h
  | cons x l ih =>
    obtain ⟨t, cs⟩ := x
    intro N' h h1
    cases N' with
    | nil => simp [sameNames] at h
    | cons y l' =>
      obtain ⟨t', cs'⟩ := y
      simp only [sameNames, Bool.and_eq_true, beq_iff_eq] at h
      simp only [namesB, Bool.and_eq_true] at h1 ⊢
      rw [← h.1]
      exact ⟨h1.1, ih h.2 h1.2⟩
theorem sameNames_trans : ∀ {N N' N2 : List (Nat × List CV)}, sameNames N N' = true → sameNames N' N2 = true → sameNames N N2 = true := by
  intro N
  induction N with
  | nil => intro N' N2 h k; cases N' with
    | nil => exact k
    | cons y l' => simp [sameNames] at h
  | cons x l ih =>
    obtain ⟨t, cs⟩ := x
    intro N' N2 h k
    cases N' with
    | nil => simp [sameNames] at h
    | cons y l' =>
      cases N2 with
      | nil => simp [sameNames] at k
      | cons z l2 =>
        simp only [sameNames, Bool.and_eq_true, beq_iff_eq] at h k ⊢
        exact ⟨h.1.trans k.1, ih h.2 k.2⟩
theorem sameNames_refl : ∀ {N : List (Nat × List CV)}, sameNames N N = true := by
  intro N
  induction N with
  | nil => rfl
  | cons x l ih => obtain ⟨t, cs⟩ := x; simp only [sameNames, ih, BEq.rfl, Bool.and_self]
theorem lputsS_slot : ∀ (ts : List Tmp) (ds : List AV) {S : List (Nat × LV)} {env : List AV}, (∀ t ∈ ts, t < env.length) → (∀ t v, aget S t = some v → v ≠ .dead → ∃ a, env[t]? = some a ∧ SRel P [] ℓ ρ v a) →
    ∀ t v, aget (lputsS S ts ds) t = some v → v ≠ .dead → ∃ a, (putAll env ts ds)[t]? = some a ∧ SRel P [] ℓ ρ v a := by
  intro ts
  induction ts with
  | nil => intro ds S env _ h; simpa [putAll, lputsS] using h
  | cons t0 ts ih =>
    intro ds S env ht h
    cases ds with
    | nil => simpa [putAll, lputsS] using h
    | cons a ds =>
      simp only [putAll, lputsS]
      refine ih ds (fun t h => by rw [List.length_set]; exact ht t (List.mem_cons_of_mem _ h)) ?_
      intro t v hv hd
      simp only [aget] at hv
      split at hv
      · rename_i e; subst e; injection hv with hv; subst hv
        exact ⟨a, by rw [List.getElem?_set_self (ht _ (by simp))], rfl⟩
      · rename_i e
        obtain ⟨x, h1, h2⟩ := h t v hv hd
        exact ⟨x, by rw [List.getElem?_set_ne e]; exact h1, h2⟩
theorem lputsS_tok : ∀ (ts : List Tmp) (ds : List AV) {S : List (Nat × LV)}, (∀ t v, aget S t = some v → ∀ i s es, ¬ v.has i s es) → ∀ t v, aget (lputsS S ts ds) t = some v → ∀ i s es, ¬ v.has i s es := by
  intro ts
  induction ts with
  | nil => intro ds S h; simpa [lputsS] using h
  | cons t0 ts ih =>
    intro ds S h
    cases ds with
    | nil => simpa [lputsS] using h
    | cons a ds =>
      simp only [lputsS]
      refine ih ds ?_
      intro t v hv
      simp only [aget] at hv
      split at hv
      · injection hv with hv; subst hv; intro i s es hh; exact hh.elim
      · exact h t v hv

/-- How a round ends. -/
def REnd (Fin : Exit → List (Nat × List CV) → Prop) (RR : List (Nat × List CV) → Prop) (N : List (Nat × List CV)) (x2 : Exit) (L2 : LEnv) : Prop :=
  ∃ σ N2, sgOk σ = true ∧ vwN σ [] L2.N N2 ∧ goodN N N2 = true ∧ ((x2 = .normal ∧ RR N2) ∨ ((∃ c, exitJump x2 = some (some c)) ∧ Fin x2 N2))
/-- A round's second part. -/
def RMid (P : Program) (f : FuncId) (fn : Func) (j : Nat) (l : Nat) (Q : Exit → LEnv → Prop) (x1 : Exit) (L1 : LEnv) : Prop :=
  x1 = .normal ∧ noIter L1.S = true ∧ ∀ c2, LoOk c2 (some l) → LC P f (some l) c2 (slimC (j + 1) (partF fn j)) Q L1
def RBody (P : Program) (f : FuncId) (fn : Func) (k j : Nat) (ps : Array Tmp) (S0 : List (Nat × LV)) (Q : Exit → LEnv → Prop) (x : List AV) (N : List (Nat × List CV)) : Prop :=
  x.length = ps.size ∧ ∀ l c1, LoOk c1 (some l) → LC P f (some l) c1 (slimC (k + 1) (partF fn k)) (RMid P f fn j l Q) ⟨lputsS S0 ps.toList x, N⟩
/-- What the rounds of a range over an iterator come to. -/
def RRun (P : Program) (f : FuncId) (fn : Func) (k j : Nat) (ps : Array Tmp) (S0 : List (Nat × LV)) (Fin : Exit → List (Nat × List CV) → Prop) : List (List AV) → List (Nat × List CV) → Prop
  | [], N => Fin .normal N
  | x :: xs, N => RBody P f fn k j ps S0 (REnd Fin (RRun P f fn k j ps S0 Fin xs) N) x N
theorem RRun.nil {fn : Func} {k j : Nat} {ps : Array Tmp} {S0 : List (Nat × LV)} {Fin : Exit → List (Nat × List CV) → Prop} (h : Fin .normal N) : RRun P f fn k j ps S0 Fin [] N := h
theorem RRun.cons {fn : Func} {k j : Nat} {ps : Array Tmp} {S0 : List (Nat × LV)} {Fin : Exit → List (Nat × List CV) → Prop} {x : List AV} {xs : List (List AV)} (h1 : x.length = ps.size) (h : ∀ l c1, LoOk c1 (some l) → LC P f (some l) c1 (slimC (k + 1) (partF fn k)) (RMid P f fn j l (REnd Fin (RRun P f fn k j ps S0 Fin xs) N)) ⟨lputsS S0 ps.toList x, N⟩) : RRun P f fn k j ps S0 Fin (x :: xs) N := ⟨h1, h⟩
theorem RMid.mk {fn : Func} {j l : Nat} {Q : Exit → LEnv → Prop} (h1 : noIter L.S = true) (h : ∀ c2, LoOk c2 (some l) → LC P f (some l) c2 (slimC (j + 1) (partF fn j)) Q L) : RMid P f fn j l Q .normal L := ⟨rfl, h1, h⟩
theorem REnd.next {Fin : Exit → List (Nat × List CV) → Prop} {RR : List (Nat × List CV) → Prop} (σ : List (Nat × Option Nat)) (h1 : sgOk σ = true) (h2 : vwN σ [] L.N N') (h3 : goodN N N' = true) (h : RR N') : REnd Fin RR N .normal L := ⟨σ, N', h1, h2, h3, .inl ⟨rfl, h⟩⟩
theorem REnd.ret {Fin : Exit → List (Nat × List CV) → Prop} {RR : List (Nat × List CV) → Prop} (σ : List (Nat × Option Nat)) (h1 : sgOk σ = true) (h2 : vwN σ [] L.N N') (h3 : goodN N N' = true) (h : Fin .ret N') : REnd Fin RR N .ret L := ⟨σ, N', h1, h2, h3, .inr ⟨⟨_, rfl⟩, h⟩⟩
attribute [go_sem] lputsS List.toList_toArray vwTs vwT

/-- **A range over an iterator.** -/
theorem LRange.iter {fn : Func} (hmix : P.follows .mixedOrders = true) (hf : P.funcs[f]? = some fn) (hlo : LoOk c lo) {t : Tmp} {k j : Nat} {ps : Array Tmp} {Q : Exit → LEnv → Prop} (hk : okLPart fn k = true) (hj : okLPart fn j = true) (hps : (ps.toList.all fun t => decide (t < fn.ntmps)) = true)
    {xs : List (List AV)} (hg : aget L.S t = some (.iter xs)) (σ : List (Nat × Option Nat)) (τ : List (Nat × Nat)) {S0 : List (Nat × LV)} {N0 : List (Nat × List CV)} (hσ : sgOk σ = true) (hn : (namesB N0 && (rnOk τ N0 && roOk τ N0)) = true) (hv : vwN σ τ L.N N0) (hS : vwTs τ L.S S0)
    (h : RRun P f fn k j ps S0 (fun x N' => Q x (setAll τ (killAll L (sgToks σ ++ toksN N')) N')) xs N0) : LRange P f lo c (.tmp t) ps k j Q L := by
  intro env m hne ⟨fr, ℓ, ρ, hr⟩
  simp only [Bool.and_eq_true] at hn
  obtain ⟨hn1, hn2, hn3⟩ := hn
  have hnt : fn.ntmps = ntmpsOf P f := by simp [ntmpsOf, hf]
  have hpt : ∀ t ∈ ps.toList, t < env.length := fun t ht => by rw [hne, ← hnt]; exact of_decide_eq_true (List.all_eq_true.1 hps t ht)
  obtain ⟨av, hav, fi, first, cap, rfl, hI⟩ := hr.slot t _ hg (by simp)
  have hheld : Held (fun t => ℓ (rn τ t)) (vρ σ ρ) m N0 := hr.held.view (τ := τ) hσ hn2 hv
  have hslot0 : ∀ t v, aget S0 t = some v → v ≠ .dead → ∃ a, env[t]? = some a ∧ ∀ ρ, SRel P [] (fun t => ℓ (rn τ t)) ρ v a := by
    intro t v h1 _
    have h2 := vwTs_get hS t v h1
    cases h3 : aget L.S t with
    | none => rw [h3] at h2; cases v <;> exact h2.elim
    | some u =>
      rw [h3] at h2
      have h4 := hr.slot t u h3
      cases u with
      | v a =>
        cases v <;> try exact h2.elim
        obtain ⟨x, h5, h6⟩ := h4 (by simp)
        refine ⟨x, h5, fun _ => ?_⟩
        simp only [vwT] at h2; subst h2; exact h6
      | lref t1 o1 =>
        cases v <;> try exact h2.elim
        obtain ⟨x, h5, h6⟩ := h4 (by simp)
        refine ⟨x, h5, fun _ => ?_⟩
        obtain ⟨rfl, rfl⟩ := h2; exact h6
      | fn g a b =>
        cases v <;> try exact h2.elim
        obtain ⟨x, h5, h6⟩ := h4 (by simp)
        refine ⟨x, h5, fun _ => ?_⟩
        obtain ⟨rfl, rfl, rfl⟩ := h2
        simp only [SRel, LAs.av_ren] at h6 ⊢; exact h6
      | _ => cases v <;> exact h2.elim
  have htok0 : ∀ t v, aget S0 t = some v → ∀ i s es, ¬ v.has i s es := by
    intro t v h1 i s es hh
    have h2 := vwTs_get hS t v h1
    cases v <;> first | exact hh.elim | (cases h3 : aget L.S t with
      | none => rw [h3] at h2; exact h2.elim
      | some u => rw [h3] at h2; cases u <;> exact h2.elim)
  let ℓ1 : Nat → Nat := fun t => ℓ (rn τ t)
  let l := m.boxes.length
  let Rd : ABox := .loop .ready none env ps (partOf P f k) (partOf P f j)
  let By : ABox := .loop .busy none env ps (partOf P f k) (partOf P f j)
  let Fin : Exit → List (Nat × List CV) → Prop := fun x N' => Q x (setAll τ (killAll L (sgToks σ ++ toksN N')) N')
  let St : List (Nat × List CV) → Mem → Prop := fun N1 m1 => sameNames N0 N1 = true ∧ ∃ ρ1, Held ℓ1 ρ1 m1 N1 ∧ Stays ℓ1 (vρ σ ρ) m N0 ρ1 m1 N1
  have low0 : ∀ t cs, aget N0 t = some cs → ℓ1 t < l := fun t cs ht => by
    obtain ⟨ds, h1, _⟩ := hheld.locs t cs ht
    exact (List.getElem?_eq_some_iff.1 h1).1
  have low : ∀ {N1 : List (Nat × List CV)}, sameNames N0 N1 = true → ∀ t cs, aget N1 t = some cs → ℓ1 t < l := fun hs t cs ht => by
    obtain ⟨k, hk⟩ := sameNames_get hs t cs ht
    exact low0 t k hk
  have frOk : ∀ {N1 m1}, St N1 m1 → FroOk fr m1 := by
    rintro N1 m1 ⟨_, ρ1, _, hst⟩ q hq
    refine hst.frame _ _ (hr.froz.1 q hq) (fun n cs hn _ => ?_)
    obtain ⟨cs', h1, _⟩ := vwN_get hv n cs hn
    exact hr.froz.2 q hq _ _ h1
  have Stext : ∀ {N1 m1 m2}, St N1 m1 → Ext m1 m2 → St N1 m2 := fun ⟨h1, ρ1, h2, h3⟩ he => ⟨h1, ρ1, h2.ext he, h3.ext2 he⟩
  have Stset : ∀ {N1 m1} b, St N1 m1 → St N1 (m1.set l b) := fun b ⟨h1, ρ1, h2, h3⟩ => ⟨h1, ρ1, h2.set b (fun t cs ht e => by have := low h1 t cs ht; omega), h3.set b (Nat.le_refl _)⟩
  have hSt0 : St N0 (m.push Rd) := by
    have he : Ext m (m.push Rd) := ⟨⟨[Rd], rfl⟩, ⟨[], by simp [Mem.push]⟩, rfl⟩
    refine ⟨sameNames_refl, vρ σ ρ, hheld.ext he, ⟨hr.mode, ⟨by simp [Mem.push], by simp [Mem.push]⟩, fun i b h1 _ => he.get h1, fun id x h1 _ => h1, fun i s es h1 id hid => .inr ⟨i, s, es, h1, hid⟩⟩⟩
  obtain ⟨r, m2, hc, hkeep, hend⟩ := hI (l + 1) (.yield l) (fun i m1 => (∃ N1, RRun P f fn k j ps S0 Fin (xs.drop i) N1 ∧ St N1 m1) ∧ m1.boxes[l]? = some Rd)
    (fun m1 => ∃ x c, (∃ N1, Fin x N1 ∧ St N1 m1) ∧ m1.boxes[l]? = some (.loop .done (some c) env ps (partOf P f k) (partOf P f j)) ∧ jumpExit (some c) = some x)
    (m.push Rd) ⟨rfl, rfl, rfl⟩ (by simp [Mem.push, l]) (fun i m1 h1 => by obtain ⟨⟨N1, _, h2⟩, _⟩ := h1; exact frOk h2) (fun i m1 m2 h1 he => by obtain ⟨⟨N1, h2, h3⟩, h4⟩ := h1; exact ⟨⟨N1, h2, Stext h3 he⟩, he.get h4⟩) (fun m1 m2 h1 he => by obtain ⟨x, c, ⟨N1, h2, h3⟩, h4, h5⟩ := h1; exact ⟨x, c, ⟨N1, h2, Stext h3 he⟩, he.get h4, h5⟩)
    ⟨⟨N0, h, hSt0⟩, by simp [Mem.push, l]⟩ (by
      rintro i x m1 hx hk1 ⟨⟨N1, hrun, hsame, ρ1, hheld1, hst1⟩, hbl⟩
      have hdr : xs.drop i = x :: xs.drop (i + 1) := by
        obtain ⟨hi, rfl⟩ := List.getElem?_eq_some_iff.1 hx
        exact List.drop_eq_getElem_cons hi
      rw [hdr] at hrun
      obtain ⟨hlen, hrun⟩ := hrun
      have hnb : namesB N1 = true := namesB_same hsame hn1
      have hlt1 : l < m1.boxes.length := (List.getElem?_eq_some_iff.1 hbl).1
      have hnol : ∀ p ∈ bsOf ℓ1 N1, p.2 ≠ l := fun p hp e => by
        obtain ⟨_, h2, cs, h3⟩ := bsOf_mem hnb p hp
        have := low hsame _ cs h3
        omega
      have hrel1 := Held.rel (P := P) (env := putAll env ps.toList x) hst1.mode hnb hheld1 (lputsS_slot ps.toList x hpt (fun t v h1 h2 => by obtain ⟨a, h3, h4⟩ := hslot0 t v h1 h2; exact ⟨a, h3, h4 _⟩)) (lputsS_tok ps.toList x htok0)
      obtain ⟨x1, env1, m2, hA, hn1', L1, ⟨fr1, ℓ2, ρ2, hr2⟩, rfl, hni, hB⟩ := LC.part hmix hf hk (by rw [putAll_length]; exact hne) ⟨_, _, _, hrel1⟩ (hrun l (cOf ℓ1 ρ1 m1 N1 hnb) ⟨⟨_, _, _, _, _, _, hbl⟩, fun l' e p hp => by injection e with e; subst e; exact hnol p hp⟩)
      have hb2 : m2.boxes[l]? = some Rd := hr2.frame l _ hbl fun p hp _ => hnol p hp
      have hr3 := (hr2.noFro hni).setBase (b := By) hbl hnol (fun ds e => by simp [Rd] at e)
      have hsetl : (m1.set l By).boxes[l]? = some By := by simp only [Mem.set]; rw [List.getElem?_set_self hlt1]
      obtain ⟨x2, env2, m3, hB', hn2', L2, ⟨fr2, ℓ3, ρ3, hr4⟩, σ', N2, hσ', hv', hgood, hend⟩ := LC.part hmix hf hj hn1' ⟨_, _, _, hr3⟩ (hB ⟨m1.set l By, _, _, _⟩ ⟨⟨_, _, _, _, _, _, hsetl⟩, fun l' e p hp => by injection e with e; subst e; exact hnol p hp⟩)
      have hb3 : m3.boxes[l]? = some By := hr4.frame l _ hsetl fun p hp _ => hnol p hp
      have hl3 : l < m3.boxes.length := (List.getElem?_eq_some_iff.1 hb3).1
      obtain ⟨hheld2, hst2⟩ := hr4.back rfl rfl hnb hσ' hv' hgood
      have hs12 : sameNames N1 N2 = true := by simp only [goodN, Bool.and_eq_true] at hgood; exact hgood.2.1
      have hSt2 : St N2 m3 := ⟨sameNames_trans hsame hs12, _, hheld2, hst1.trans hst2 (Nat.le_refl _) (fun t cs ht => sameNames_get hsame t cs ht)⟩
      have hkeep : ∀ b, KeepB (l + 1) m1 (m3.set l b) := by
        intro b
        refine ⟨fun i c hi hc => ?_, ?_, ?_, ?_⟩
        · simp only [Mem.set]
          rw [List.getElem?_set_ne (by omega)]
          refine hr4.frame i c ?_ (fun p hp _ e => ?_)
          · simp only [Mem.set]
            rw [List.getElem?_set_ne (by omega)]; exact hc
          · obtain ⟨_, h2, cs, h3⟩ := bsOf_mem hnb p hp
            have := low hsame _ cs h3
            omega
        · have := hr4.len.1; simp [Mem.set] at this ⊢; exact this
        · have := hr4.len.2; simp [Mem.set] at this ⊢; exact this
        · show m3.mode = m1.mode
          rw [hr4.mode, hst1.mode]
      rcases hend with ⟨rfl, hrun'⟩ | ⟨⟨c, hc⟩, hfin⟩
      · refine ⟨_, _, ACallV.yield hbl hlen hA hb2 hB' hb3 rfl, hkeep _, .inl ⟨rfl, ⟨N2, hrun', Stset _ hSt2⟩, ?_⟩⟩
        simp only [Mem.set]
        rw [List.getElem?_set_self hl3]; rfl
      · refine ⟨_, _, ACallV.yield hbl hlen hA hb2 hB' hb3 hc, hkeep _, .inr ⟨rfl, x2, c, ⟨N2, hfin, Stset _ hSt2⟩, ?_, jump_of hc⟩⟩
        simp only [Mem.set]
        rw [List.getElem?_set_self hl3]; rfl)
  have up : ∀ {x N1 m1} b, St N1 m1 → Fin x N1 → UpQ P (ntmpsOf P f) c (Q x) env (m1.set l b) := by
    rintro x N1 m1 b hs hfin
    obtain ⟨h1, ρ1, h2, h3⟩ := Stset b hs
    exact ⟨hne, _, ⟨fr, ℓ, _, (hr.vars h1 hn2 hn3 hv h2 h3).1⟩, hfin⟩
  rcases hend with ⟨⟨N1, hrun, hs⟩, hb⟩ | ⟨x, c, ⟨N1, hfin, hs⟩, hb, hx⟩
  · rw [List.drop_length] at hrun
    exact ⟨.normal, env, _, AExec.range (hlo.at_ hr) (by simpa [aeval] using hav) hc hb (by simp) rfl, up _ hs hrun⟩
  · exact ⟨x, env, _, AExec.range (hlo.at_ hr) (by simpa [aeval] using hav) hc hb (by simp) hx, up _ hs hfin⟩
end
end Go.Proofs.YtdnnmopncndebaaDoor.G
set_option linter.unusedVariables false
set_option linter.unusedSimpArgs false
set_option linter.unusedSectionVars false
namespace Go.Proofs.YtdnnmopncndebaaDoor.G

variable [Mu]
/-- A store into an element that is to be looked at. -/
def LStV (q : Option (Nat × List AV)) (n : Option Nat) (a : AV) (i s k off : Nat) (L : LEnv) (K : LV → LEnv → List Nat → Prop) : Prop :=
  lres (match q, n with
    | some (s', es), some n => if isV i = true ∧ s' = s ∧ a.cells.length = n ∧ notTuple a = true then (es[k]?).bind fun e => (turnE e off a.cells).map fun e' => (LV.v .undef, updL i s (es.set k e') L, ([] : List Nat)) else none
    | _, _ => none) K
theorem lstore_vref {P : Program} {t : TypeId} {a : AV} {i s k off : Nat} {e late : Bool} {pend : List Nat} {L : LEnv} {K : LV → LEnv → List Nat → Prop} (he : e = false) : lres (lstore P t (.vref i s k off) (.v a) ⟨e, pend, late⟩ L) K = LStV (findL i L) (sizeT P t) a i s k off L K := by
  subst he
  simp only [lstore, LStV]
  cases findL i L with
  | none => rfl
  | some p =>
    obtain ⟨s', es⟩ := p
    cases sizeT P t with
    | none => rfl
    | some n => simp only [true_and]
theorem LStV.map {α : Type} {F : α → AV} {xs : List α} {x x' : α} {q : Option (Nat × List AV)} {nn : Option Nat} {n i s k off : Nat} {a : AV} {L : LEnv} {K : LV → LEnv → List Nat → Prop} (hq : q = some (s, xs.map F)) (hn : nn = some n) (hi : isV i = true) (ha : a.cells.length = n) (ht : notTuple a = true)
    (hx : xs[k]? = some x) (he : turnE (F x) off a.cells = some (F x')) (h : K (.v .undef) (updL i s ((xs.set k x').map F) L) []) : LStV q nn a i s k off L K := by
  subst hq hn
  unfold LStV
  dsimp only
  rw [if_pos ⟨hi, rfl, ha, ht⟩, List.getElem?_map, hx]
  simp only [Option.map_some, Option.bind_some, he, lres]
  rw [← List.map_set]; exact h
attribute [go_sem] lstore_vref isSub
/-- A part of a list. -/
def sliceI {α : Type} (xs : List α) (l h : Int) : List α := (xs.take h.toNat).drop l.toNat
theorem sliceI_eq {α : Type} (xs : List α) (l h : Int) (h0 : 0 ≤ l) (h1 : l ≤ h) : sliceI xs l h = (xs.drop l.toNat).take (h - l).toNat := by
  unfold sliceI
  rw [List.drop_take, show h.toNat - l.toNat = (h - l).toNat by omega]
theorem sliceI_map {α β : Type} (F : α → β) (xs : List α) (l h : Int) : (sliceI xs l h).map F = ((xs.map F).take h.toNat).drop l.toNat := by
  unfold sliceI; rw [List.map_drop, List.map_take]
/-- A part of a slice that is turned in place. -/
theorem LSlV.map {P : Program} {α : Type} {F : α → AV} {xs : List α} {i t el s : Nat} {lo hi : Option AV} {l h : Int} {L : LEnv} {y : Option AV} {K : LV → LEnv → List Nat → Prop} (h1 : elemT P t = some el) (h2 : sizeT P el = some s) (hi' : isV i = true)
    (hl : abound lo 0 = some l) (hh : abound hi (xs.map F).length = some h) (hc : (0 ≤ l ∧ l ≤ h ∧ h ≤ (xs.length : Int)) ∧ 0 < (xs.length : Int)) (hk : K (.vsub i s l.toNat (h - l).toNat) L []) : lres (lslice L (lvslice P t (some (.own i s (xs.map F))) (some lo) (some hi) (some none)) y) K := by
  have e : lvslice P t (some (.own i s (xs.map F))) (some lo) (some hi) (some none) = some (.vsub i s l.toNat (h - l).toNat) := by
    unfold lvslice
    rw [h1, Option.bind_some, h2]
    dsimp only
    rw [hl, hh]
    dsimp only
    rw [if_pos ⟨hi', rfl, hc.1.1, hc.1.2.1, by simpa using hc.1.2.2, by have := hc.2; simp only [List.length_map]; omega⟩]
  rw [e]; exact hk
theorem LCut.map {P : Program} {α : Type} {F : α → AV} {xs : List α} {i t xt el el' s b d k a c n : Nat} {A B C : Int} {early : Bool} {L : LEnv} {K : LV → LEnv → List Nat → Prop} (hk0 : k = 0) (ha : a = A.toNat) (hA : 0 ≤ A ∧ A ≤ (xs.length : Int)) (hb : c = B.toNat) (hn : n = (C - B).toNat) (hB : 0 ≤ B ∧ B ≤ C ∧ C ≤ (xs.length : Int)) (hAB : A ≤ B)
    (h1 : elemT P t = some el) (h2 : elemT P xt = some el') (h3 : sizeT P el = some s) (h4 : bytesT P el = some b) (h5 : zsizeT P el = some s) (hsb : (decide (0 < s) && decide (0 < b)) = true) (hF : ∀ x, (F x).cells.length = s) (hq : findL i L = some (s, xs.map F)) (he : early = false) (hi : isV i = true) (hmu : muT P t = true)
    (hroom : ((sliceI xs 0 A).length + (sliceI xs B C).length) * b ≤ 140737488355328) (hk : K (.own (vOf true d) s ((sliceI xs 0 A ++ sliceI xs B C).map F)) (killL i (vOf true d) L) []) : lres (lcut P t xt (.vsub i s k a) (.vsub i s c n) (some d) early L) K := by
  subst hk0 ha hb hn he
  have e1 : (xs.map F).take A.toNat = (sliceI xs 0 A).map F := by rw [sliceI_map]; simp
  have e2 : ((xs.map F).drop B.toNat).take (C - B).toNat = (sliceI xs B C).map F := by rw [sliceI_eq xs B C hB.1 hB.2.1, List.map_take, List.map_drop]
  rw [Bool.and_eq_true, decide_eq_true_eq, decide_eq_true_eq] at hsb
  have hl : lapp P t xt ((xs.map F).take A.toNat) (((xs.map F).drop B.toNat).take (C - B).toNat) = some s := by
    have c1 : ∀ e ∈ (xs.map F).take A.toNat, e.cells.length = s := fun e he => by obtain ⟨x, _, rfl⟩ := List.mem_map.1 (List.mem_of_mem_take he); exact hF x
    have c2 : ∀ e ∈ ((xs.map F).drop B.toNat).take (C - B).toNat, e.cells.length = s := fun e he => by obtain ⟨x, _, rfl⟩ := List.mem_map.1 (List.mem_of_mem_drop (List.mem_of_mem_take he)); exact hF x
    unfold lapp
    rw [h1, h2]
    dsimp only
    rw [h3, h4]
    dsimp only
    rw [if_pos ⟨hsb.1, hsb.2, h5, by rw [e1, e2, List.length_map, List.length_map]; exact hroom, c1, c2⟩]
  have e : lcut P t xt (.vsub i s 0 A.toNat) (.vsub i s B.toNat (C - B).toNat) (some d) false L = some (.own (vOf true d) s ((sliceI xs 0 A ++ sliceI xs B C).map F), killL i (vOf true d) L, []) := by
    simp only [lcut]
    rw [hq]
    dsimp only
    rw [if_pos ⟨trivial, trivial, trivial, rfl, trivial, hi, hmu, by omega, by rw [List.length_map]; omega, hl⟩, e1, e2, List.map_append]
  rw [e]; exact hk
attribute [go_sem] lopt
end Go.Proofs.YtdnnmopncndebaaDoor.G
set_option linter.unusedVariables false
set_option linter.unusedSimpArgs false
set_option linter.unusedSectionVars false
namespace Go.Proofs.YtdnnmopncndebaaDoor.G

variable [Mu]
section
variable {P : Program} {fr : Fro} {ℓ : Nat → Nat} {ρ : Nat → Own} {c : LCtx} {L : LEnv} {env : List AV} {m : Mem} {f : FuncId} {lo : Option Nat} {σ : List (Nat × Option Nat)}

/- Results with such slices in their parts. -/
end
attribute [go_sem] Option.some_or Option.none_or not_true_eq_false not_false_eq_true if_true if_false List.getElem?_map Option.map_some Option.bind_some List.getElem?_cons_zero List.getElem?_cons_succ LV.toks LV.resOk CV.resOk List.append_nil List.nil_append List.cons_append
end Go.Proofs.YtdnnmopncndebaaDoor.G
set_option linter.unusedVariables false
set_option linter.unusedSimpArgs false
set_option maxRecDepth 100000
namespace Go.Proofs.YtdnnmopncndebaaDoor.G
structure T_api_Value where
  Null : Bool
  N : Int
def T_api_Value.C (x : T_api_Value) : List AV := [.bool x.Null, .i64 x.N]
attribute [go_sem] T_api_Value.C
structure T_api_Term where
  Kind : Int
  Table : Int
  Col : Int
  Value : T_api_Value
def T_api_Term.C (x : T_api_Term) : List AV := [.i64 x.Kind, .i64 x.Table, .i64 x.Col, .bool x.Value.Null, .i64 x.Value.N]
attribute [go_sem] T_api_Term.C
structure T_api_Pred where
  Kind : Int
  Truth : Int
  Op : Int
  A : T_api_Term
  B : T_api_Term
  Parts : List T_api_Pred
def T_api_Pred.av : T_api_Pred → AV
  | ⟨a0, a1, a2, a3, a4, a5⟩ => .agg [.i64 a0, .i64 a1, .i64 a2, .i64 a3.Kind, .i64 a3.Table, .i64 a3.Col, .bool a3.Value.Null, .i64 a3.Value.N, .i64 a4.Kind, .i64 a4.Table, .i64 a4.Col, .bool a4.Value.Null, .i64 a4.Value.N, .slice .foreign (a5.map T_api_Pred.av)]
def T_api_Pred.C (x : T_api_Pred) : List AV := [.i64 x.Kind, .i64 x.Truth, .i64 x.Op, .i64 x.A.Kind, .i64 x.A.Table, .i64 x.A.Col, .bool x.A.Value.Null, .i64 x.A.Value.N, .i64 x.B.Kind, .i64 x.B.Table, .i64 x.B.Col, .bool x.B.Value.Null, .i64 x.B.Value.N, .slice .foreign (x.Parts.map T_api_Pred.av)]
theorem T_api_Pred.av_eq (x : T_api_Pred) : x.av = .agg x.C := by cases x; simp only [T_api_Pred.av, T_api_Pred.C]
attribute [go_sem] T_api_Pred.C T_api_Pred.av_eq
theorem T_api_Pred.induct {M : T_api_Pred → Prop} (h : ∀ x : T_api_Pred, (∀ y ∈ x.Parts, M y) → M x) : ∀ x, M x := by
  intro x
  refine T_api_Pred.rec (motive_1 := M) (motive_2 := fun l => ∀ y ∈ l, M y) ?_ ?_ ?_ x
  · intro a0 a1 a2 a3 a4 a5 ih; exact h ⟨a0, a1, a2, a3, a4, a5⟩ ih
  · intro y hy; cases hy
  · intro y l h1 h2 z hz
    rcases List.mem_cons.1 hz with rfl | hz
    · exact h1
    · exact h2 z hz
theorem T_api_Pred.flat (x : T_api_Pred) : Flat x.av := by
  induction x using T_api_Pred.induct with
  | h x ih =>
    rw [T_api_Pred.av_eq]
    refine .agg _ (flC (.atom _) (flC (.atom _) (flC (.atom _) (flC (.atom _) (flC (.atom _) (flC (.atom _) (flC (.atom _) (flC (.atom _) (flC (.atom _) (flC (.atom _) (flC (.atom _) (flC (.atom _) (flC (.atom _) (flC ?_ (flN)))))))))))))))
    refine .slice .foreign _ (fun id h => by cases h) (fun e he c hc => ?_)
    obtain ⟨p, hp, rfl⟩ := List.mem_map.1 he
    exact flat_cells (ih p hp) c hc
structure T_api_Edge where
  Kind : Int
  Preds : List T_api_Pred
  Uses : Set64
  Left : Set64
  Right : Set64
def T_api_Edge.C (x : T_api_Edge) : List AV := [.i64 x.Kind, .slice .foreign (x.Preds.map T_api_Pred.av), .w x.Uses, .w x.Left, .w x.Right]
def T_api_Edge.av (x : T_api_Edge) : AV := .agg x.C
attribute [go_sem] T_api_Edge.C T_api_Edge.av
theorem T_api_Edge.flatC (x : T_api_Edge) : Flat (.agg x.C) := .agg _ (flC (.atom _) (flC (flat_slice _ T_api_Pred.flat _) (flC (.atom _) (flC (.atom _) (flC (.atom _) (flN))))))
theorem T_api_Edge.flat (x : T_api_Edge) : Flat x.av := x.flatC
theorem T_api_Edge.len (x : T_api_Edge) : x.av.cells.length = 5 := rfl
@[go_sem] theorem muT_22 [Mu] : muT Tryd.prog 22 = seatMu 34 := by unfold muT; rw [show elemT Tryd.prog 22 = some 34 by kernel_rfl]
@[go_sem] theorem muT_30 [Mu] : muT Tryd.prog 30 = seatMu 23 := by unfold muT; rw [show elemT Tryd.prog 30 = some 23 by kernel_rfl]
@[go_sem] theorem muT_41 [Mu] : muT Tryd.prog 41 = seatMu 3 := by unfold muT; rw [show elemT Tryd.prog 41 = some 3 by kernel_rfl]
@[reducible] def mu_23 : Mu := ⟨fun t => [23].contains t⟩
@[go_sem] theorem mu_23_at_3 : @seatMu mu_23 3 = false := by kernel_rfl
@[go_sem] theorem mu_23_at_23 : @seatMu mu_23 23 = true := by kernel_rfl
end Go.Proofs.YtdnnmopncndebaaDoor.G
set_option linter.unusedVariables false
set_option linter.unusedSimpArgs false
set_option maxRecDepth 100000
namespace Go.Proofs.YtdnnmopncndebaaDoor.G
attribute [go_sem] List.set_cons_zero List.set_cons_succ List.getElem?_cons_zero List.getElem?_cons_succ
@[go_sem] theorem constAV_nilFunc' : constAV .nilFunc = some (.atom .nilFunc) := rfl
end Go.Proofs.YtdnnmopncndebaaDoor.G
set_option linter.unusedVariables false
set_option linter.unusedSimpArgs false
set_option maxRecDepth 100000
namespace Go.Proofs.YtdnnmopncndebaaDoor.G
theorem lok_28 : (Tryd.f28.body.isSome && !(Tryd.f28.name == "runtime.NumGoroutine") && okL (bodyF Tryd.f28) Tryd.f28.ntmps (bodyF Tryd.f28)) = true := by kernel_rfl
def M_sets_one (x : Int) : Option (Set64) :=
  if (decide (x < 0)) = true then
    some (0#64)
  else
    if (decide (x ≥ 64)) = true then
      some (0#64)
    else
      some (1#64 <<< ((BitVec.ofInt 64 x)).toNat)
set_option maxHeartbeats 8000000 in
theorem M_sets_one.w : ∀ (x : Int) (r : Set64), M_sets_one x = some r → (fun (x : Int) (r : Set64) => Fn Tryd.prog 28 [.i64 x] (.w r)) x r := by
  intro x r h
  rw [M_sets_one] at h
  try dsimp only
  refine Fn.of_lc mix fn_28 lok_28 (by rfl) (flC (.atom _) (flN)) (.atom _) ?_
  simp -implicitDefEqProofs only [go_sem, Tryd.f28]
  by_cases h1 : (decide (x < 0)) = true
  · replace h := ite_some h h1
    try simp -implicitDefEqProofs only [go_sem, h1]
    injection h with h; subst h
    first | rfl | simp -implicitDefEqProofs only [go_sem, h1] <;> rfl
  · replace h := ite_none h h1; replace h1 := bfalse h1
    try simp -implicitDefEqProofs only [go_sem, h1]
    by_cases h2 : (decide (x ≥ 64)) = true
    · replace h := ite_some h h2
      try simp -implicitDefEqProofs only [go_sem, h1, h2]
      injection h with h; subst h
      first | rfl | simp -implicitDefEqProofs only [go_sem, h1, h2] <;> rfl
    · replace h := ite_none h h2; replace h2 := bfalse h2
      try simp -implicitDefEqProofs only [go_sem, h1, h2]
      injection h with h; subst h
      first | rfl | simp -implicitDefEqProofs only [go_sem, h1, h2] <;> rfl
end Go.Proofs.YtdnnmopncndebaaDoor.G
set_option linter.unusedVariables false
set_option linter.unusedSimpArgs false
set_option maxRecDepth 100000
namespace Go.Proofs.YtdnnmopncndebaaDoor.G
theorem lok_34 : (Tryd.f34.body.isSome && !(Tryd.f34.name == "runtime.NumGoroutine") && okL (bodyF Tryd.f34) Tryd.f34.ntmps (bodyF Tryd.f34)) = true := by kernel_rfl
def M_sets_Has (x : Set64 × Int) : Option (Bool) :=
  M_sets_one x.2 >>= fun r1 =>
  some ((x.1 &&& r1) != 0#64)
set_option maxHeartbeats 8000000 in
theorem M_sets_Has.w : ∀ (x : Set64 × Int) (r : Bool), M_sets_Has x = some r → (fun (x : Set64 × Int) (r : Bool) => Fn Tryd.prog 34 [.w x.1, .i64 x.2] (.bool r)) x r := by
  intro x r h
  rw [M_sets_Has] at h
  try dsimp only
  refine Fn.of_lc mix fn_34 lok_34 (by rfl) (flC (.atom _) (flC (.atom _) (flN))) (.atom _) ?_
  simp -implicitDefEqProofs only [go_sem, Tryd.f34]
  obtain ⟨r1, h2, h⟩ := bind_some' h
  refine .plain _ _ rfl (M_sets_one.w x.2 _ h2) ?_
  try simp -implicitDefEqProofs only [go_sem]
  injection h with h; subst h
  first | rfl | simp -implicitDefEqProofs only [go_sem] <;> rfl
end Go.Proofs.YtdnnmopncndebaaDoor.G
set_option linter.unusedVariables false
set_option linter.unusedSimpArgs false
set_option maxRecDepth 100000
namespace Go.Proofs.YtdnnmopncndebaaDoor.G

/-- A set's members, rising. -/
def memb (s : Set64) : List Int := ((List.range 64).filter fun i => s.getLsbD i).map fun (i : Nat) => (i : Int)
theorem has_bit (s : Set64) (i : Nat) (h : i < 64) : M_sets_Has (s, (i : Int)) = some (s.getLsbD i) := by
  have h1 : decide ((i : Int) < 0) = false := by simp
  have h2 : decide ((i : Int) ≥ 64) = false := by simp; omega
  have h3 : (BitVec.ofInt 64 (i : Int)).toNat = i := by
    rw [BitVec.ofInt_natCast, BitVec.toNat_ofNat]; omega
  have e : M_sets_one (i : Int) = some (1#64 <<< i) := by
    unfold M_sets_one
    rw [h1, h2, h3]; rfl
  unfold M_sets_Has
  simp only [e, Option.bind_eq_bind, Option.bind_some]
  congr 1
  have h4 : s &&& 1#64 <<< i = if s.getLsbD i then BitVec.twoPow 64 i else 0#64 := by
    rw [← BitVec.and_twoPow]; rfl
  rw [h4]
  split
  · rename_i hb
    rw [hb]
    have h5 : BitVec.twoPow 64 i ≠ 0#64 := by
      intro e
      have := congrArg (fun x => x.getLsbD i) e
      simp [BitVec.getLsbD_twoPow, h] at this
    simp [h5]
  · rename_i hb
    simp at hb
    simp [hb]
theorem memb_get (s : Set64) (j : Nat) (h : j < 64) (hb : s.getLsbD j = true) : (memb s)[((List.range j).filter fun i => s.getLsbD i).length]? = some (j : Int) := by
  have e : List.range 64 = List.range j ++ (j :: (List.range' (j + 1) (63 - j))) := by
    rw [List.range_eq_range', List.range_eq_range', ← List.range'_succ, show 63 - j + 1 = 64 - j by omega]
    have := List.range'_append (s := 0) (m := j) (n := 64 - j) (step := 1)
    simp at this
    rw [show j + (64 - j) = 64 by omega] at this
    exact this.symm
  unfold memb
  rw [e, List.filter_append, List.filter_cons_of_pos (by simpa using hb), List.map_append]
  rw [List.getElem?_append_right (by simp)]
  simp
theorem members_iter (s : Set64) (l : Nat) : Iter Tryd.prog 33 [] [.ptr l 0] (fun m => m.boxes[l]? = some (.cells [.w s])) ((memb s).map fun i => [.i64 i]) := by
  intro b yv I D m hy hb hC hI hD h0 hY
  obtain ⟨B, R, μ⟩ := m
  dsimp only at hb
  show Does Tryd.prog 33 [yv, .ptr l 0] _ _
  have hlen : ∀ j, j = 64 → ((List.range j).filter fun i => s.getLsbD i).length = ((memb s).map fun i => [AV.i64 i]).length := by
    rintro j rfl
    simp [memb]
  refine Does.of_slim mix fn_33 ok_33 (by rfl) ?_; simp -implicitDefEqProofs only [go_sem, Tryd.f33]
  refine SLoop.induct mix fn_33 (by kernel_rfl) (fun n e m' => ∃ (j : Nat), e = [(0, yv), (1, .ptr l 0), (4, .i64 j)] ∧ KeepB b ⟨B, R, μ⟩ m' ∧ I ((List.range j).filter fun i => s.getLsbD i).length m' ∧ j ≤ 64 ∧ n = 64 - j) 64 ⟨0, rfl, KeepB.refl _ _, h0, by omega, by omega⟩ (by simp -implicitDefEqProofs only [go_sem] <;> repeat' (first | rfl | apply And.intro)) ?_
  rintro n e m' ⟨j, rfl, hk, hi, hj, hn⟩ ih2
  obtain ⟨B', R', μ'⟩ := m'
  have b1 := hC _ _ hi
  dsimp only at b1
  simp -implicitDefEqProofs only [go_sem, Tryd.f33]
  refine SCond_dec (fun hc => ?_) fun hc => ?_
  · have hj' : j < 64 := by omega
    have hnx : ∀ bb, s.getLsbD j = bb → ((List.range (j + 1)).filter fun i => s.getLsbD i).length = ((List.range j).filter fun i => s.getLsbD i).length + (if bb = true then 1 else 0) := by
      intro bb h
      rw [List.range_succ, List.filter_append, List.length_append]
      cases bb <;> simp [h]
    simp -implicitDefEqProofs only [go_sem, b1]
    refine DoesV.fn (M_sets_Has.w (s, (j : Int)) _ (has_bit s j hj')) ?_
    cases hbit : s.getLsbD j with
    | false =>
      simp -implicitDefEqProofs only [go_sem, inc64 j (by omega)]
      refine ih2 (64 - (j + 1)) _ _ _ (by omega) ⟨j + 1, rfl, hk, ?_, by omega, rfl⟩ (by simp -implicitDefEqProofs only [go_sem] <;> repeat' (first | rfl | apply And.intro))
      rw [hnx false hbit]; exact hi
    | true =>
      simp -implicitDefEqProofs only [go_sem]
      have hx : ((memb s).map fun i => [AV.i64 i])[((List.range j).filter fun i => s.getLsbD i).length]? = some [.i64 j] := by
        rw [List.getElem?_map, memb_get s j hj' hbit]; rfl
      refine (hY _ _ _ hx hk hi).mono ?_
      rintro r m2 ⟨hk2, hcase⟩
      refine ⟨False.elim, ?_⟩
      have hk3 := hk.trans hk2
      rcases hcase with ⟨rfl, hi2⟩ | ⟨rfl, hd2⟩
      · simp -implicitDefEqProofs only [go_sem, inc64 j (by omega)]
        refine ih2 (64 - (j + 1)) _ _ _ (by omega) ⟨j + 1, rfl, hk3, ?_, by omega, rfl⟩ (by simp -implicitDefEqProofs only [go_sem] <;> repeat' (first | rfl | apply And.intro))
        rw [hnx true hbit]; exact hi2
      · simp -implicitDefEqProofs only [go_sem]
        exact ⟨hk3, .inr hd2⟩
  · have hjj : j = 64 := by omega
    rw [hlen j hjj] at hi
    simp -implicitDefEqProofs only [go_sem]
    exact ⟨hk, .inl (by simpa using hi)⟩
theorem sets_members (s : Set64) (B : List ABox) (R : List (Option (Nat × List AV))) (μ : TypeId → Bool) : Does Tryd.prog 32 [.w s] ⟨B, R, μ⟩ fun r m1 => r = .func 33 [] [.ptr B.length 0] ∧ m1 = ⟨B ++ [.cells [.w s]], R, μ⟩ := by
  refine Does.of_slim mix fn_32 ok_32 (by rfl) ?_; simp -implicitDefEqProofs only [go_sem, Tryd.f32]
def M_sets_members (s : Set64) : Option (List Int) := some (memb s)
theorem M_sets_members.w : ∀ (x : Set64) (r : List Int), M_sets_members x = some r → FnI Tryd.prog 32 [.w x] (r.map fun y => [.i64 y]) := by
  intro s r h m
  injection h with h
  subst h
  obtain ⟨B, R, μ⟩ := m
  obtain ⟨r, m', h1, rfl, rfl⟩ := sets_members s B R μ
  refine ⟨_, _, _, _, [(B.length, .cells [.w s])], h1, ⟨⟨[.cells [.w s]], rfl⟩, ⟨[], by simp⟩, rfl⟩, ?_, ?_, ?_⟩
  · intro q hq
    rcases List.mem_cons.1 hq with rfl | hq
    · simp
    · cases hq
  · intro b yv I D m hy hb hC hI hD h0 hY
    exact members_iter s B.length b yv I D m hy hb (fun i m h => hC i m h (B.length, .cells [.w s]) (List.mem_cons_self)) hI hD h0 hY
  · intro q hq
    rcases List.mem_cons.1 hq with rfl | hq
    · exact Nat.le_refl _
    · cases hq
end Go.Proofs.YtdnnmopncndebaaDoor.G
set_option linter.unusedVariables false
set_option linter.unusedSimpArgs false
set_option maxRecDepth 100000
namespace Go.Proofs.YtdnnmopncndebaaDoor.G
theorem lok_18 : (Tryd.f18.body.isSome && !(Tryd.f18.name == "runtime.NumGoroutine") && okL (bodyF Tryd.f18) Tryd.f18.ntmps (bodyF Tryd.f18)) = true := by kernel_rfl
def M_sets_Of.l0 (x : Set64 × List Int × Int × Int) : Option (Set64) :=
  if (decide (x.2.2.2 < x.2.2.1)) = true then
    (getI x.2.1 x.2.2.2) >>= fun (e2 : Int) =>
    M_sets_one e2 >>= fun r4 =>
    M_sets_Of.l0 ((x.1 ||| r4), x.2.1, x.2.2.1, (w64 (x.2.2.2 + 1)))
  else
    some x.1
  partial_fixpoint
theorem M_sets_Of.l0.ws : (∀ (x : Set64 × List Int × Int × Int) (o : Set64), M_sets_Of.l0 x = some o → (fun (x : Set64 × List Int × Int × Int) (o : Set64) => ∀ (lo : Option Nat) (c : LCtx) (Q : Exit → LEnv → Prop) (hb : ∀ s : Set64, o = s → Q (.exit 0) ⟨[(3, .v (.w s))], []⟩), LLoop Tryd.prog 18 lo c 0 (VQ Q) ⟨[(3, .v (.w x.1)), (6, .v (.slice .foreign (x.2.1.map AV.i64))), (7, .v (.i64 x.2.2.1)), (8, .v (.i64 x.2.2.2))], []⟩) x o) := by
  refine M_sets_Of.l0.partial_correctness _ ?_
  · intro M_M_sets_Of_l0 ih_M_sets_Of_l0 x o h
    intro lo c Q hb
    refine LLoop.step mix fn_18 (by kernel_rfl) ?_
    simp -implicitDefEqProofs only [go_sem, Tryd.f18]
    by_cases h1 : (decide (x.2.2.2 < x.2.2.1)) = true
    · replace h := ite_some h h1
      try simp -implicitDefEqProofs only [go_sem, h1]
      obtain ⟨e2, h3, h⟩ := bind_some' h; replace h3 := getI_some h3; obtain ⟨h3', h3⟩ := h3
      try simp -implicitDefEqProofs only [go_sem, h1, h3, h3']
      obtain ⟨r4, h5, h⟩ := bind_some' h
      refine .plain _ _ rfl (M_sets_one.w e2 _ h5) ?_
      try simp -implicitDefEqProofs only [go_sem, h1, h3, h3']
      exact LLoop.view [] (by (first | rfl | simp -implicitDefEqProofs only [go_sem, h1, h3, h3'] <;> rfl)) (ih_M_sets_Of_l0 _ _ h lo c Q hb)
    · replace h := ite_none h h1; replace h1 := bfalse h1
      try simp -implicitDefEqProofs only [go_sem, h1]
      injection h with h; subst h
      exact .inr ⟨[], _, by (simp -implicitDefEqProofs only [go_sem, h1] <;> first | done | rfl | trivial), hb _ rfl⟩
theorem M_sets_Of.l0.w : type_of% @M_sets_Of.l0.ws := @M_sets_Of.l0.ws
def M_sets_Of (x : List Int) : Option (Set64) :=
  M_sets_Of.l0 (0#64, x, (x.length : Int), 0) >>= fun (o6 : Set64) =>
  some o6
set_option maxHeartbeats 8000000 in
theorem M_sets_Of.w : ∀ (x : List Int) (r : Set64), M_sets_Of x = some r → (fun (x : List Int) (r : Set64) => Fn Tryd.prog 18 [.slice .foreign (x.map AV.i64)] (.w r)) x r := by
  intro x r h
  rw [M_sets_Of] at h
  try dsimp only
  refine Fn.of_lc mix fn_18 lok_18 (by rfl) (flC (flat_slice _ (fun _ => .atom _) _) (flN)) (.atom _) ?_
  simp -implicitDefEqProofs only [go_sem, Tryd.f18]
  obtain ⟨o6, h7, h⟩ := bind_some' h
  refine LLoop.viewQ (LLoop.view [] (by (first | rfl | simp -implicitDefEqProofs only [go_sem] <;> rfl)) (M_sets_Of.l0.w (0#64, x, (x.length : Int), 0) _ h7 _ _ _ ?_))
  intro s' hs'; subst hs'
  try simp -implicitDefEqProofs only [go_sem]
  injection h with h; subst h
  first | rfl | simp -implicitDefEqProofs only [go_sem] <;> rfl
end Go.Proofs.YtdnnmopncndebaaDoor.G
set_option linter.unusedVariables false
set_option linter.unusedSimpArgs false
set_option maxRecDepth 100000
namespace Go.Proofs.YtdnnmopncndebaaDoor.G
theorem lok_23 : (Tryd.f23.body.isSome && !(Tryd.f23.name == "runtime.NumGoroutine") && okL (bodyF Tryd.f23) Tryd.f23.ntmps (bodyF Tryd.f23)) = true := by kernel_rfl
def M_sets_List.r0 (x : List Int × List Int) : Option (List Int) :=
  match x.1 with
  | [] => some x.2
  | e3 :: l4 =>
    (room 8 x.2 ([e3])) >>= fun (z5 : List Int) =>
    M_sets_List.r0 (l4, z5)
  partial_fixpoint
theorem M_sets_List.r0.ws : (∀ (x : List Int × List Int) (o : List Int), M_sets_List.r0 x = some o → (fun (x : List Int × List Int) (o : List Int) => ∀ (Fin : Exit → List (Nat × List CV) → Prop) (hb : ∀ (s : List Int), o = s → Fin .normal [(2100003, [.own 32000300 1 (s.map AV.i64)])]), RRun Tryd.prog 23 Tryd.f23 0 1 #[7] [(3, .lref 2100003 0)] Fin (x.1.map (fun (y : Int) => [.i64 y])) [(2100003, [.own 32000300 1 (x.2.map AV.i64)])]) x o) := by
  refine M_sets_List.r0.partial_correctness _ ?_
  · intro M_M_sets_List_r0 ih_M_sets_List_r0 x o h
    intro Fin hb
    generalize hx1 : x.1 = ys at h ⊢
    cases ys with
    | nil => injection h with h; subst h; exact RRun.nil (hb _ rfl)
    | cons e3 l4 =>
      refine RRun.cons rfl fun l0 c1 hlo1 => ?_
      dsimp only at h
      simp -implicitDefEqProofs only [go_sem, Tryd.f23]
      refine RMid.mk (by rfl) fun c2 hlo2 => ?_
      simp -implicitDefEqProofs only [go_sem, Tryd.f23]
      obtain ⟨z5, h6, h⟩ := bind_some' h; replace h6 := room_some h6; obtain ⟨h6', rfl⟩ := h6
      refine LApp.map (F := AV.i64) (xs := x.2) (ys := [e3]) t41_elem t3_size t3_bytes t3_zsize rfl (fun _ => rfl) (by (first | rfl | simp -implicitDefEqProofs only [go_sem] <;> rfl)) (by (first | rfl | simp -implicitDefEqProofs only [go_sem] <;> rfl)) h6' ?_
      try simp -implicitDefEqProofs only [go_sem]
      exact REnd.next [(32000300, some 11)] (by rfl) (by (first | rfl | simp -implicitDefEqProofs only [go_sem] <;> rfl)) (by rfl) (ih_M_sets_List_r0 (l4, (x.2 ++ [e3])) _ h Fin hb)
theorem M_sets_List.r0.w : type_of% @M_sets_List.r0.ws := @M_sets_List.r0.ws
def M_sets_List (x : Set64) : Option (List Int) :=
  M_sets_members x >>= fun l1 =>
  M_sets_List.r0 (l1, ([] : List Int)) >>= fun (s9 : List Int) =>
  some s9
set_option maxHeartbeats 8000000 in
theorem M_sets_List.w : ∀ (x : Set64) (r : List Int), M_sets_List x = some r → (fun (x : Set64) (r : List Int) => Fn Tryd.prog 23 [.w x] (.slice .foreign (r.map AV.i64))) x r := by
  intro x r h
  rw [M_sets_List] at h
  try dsimp only
  refine Fn.of_lc mix fn_23 lok_23 (by rfl) (flC (.atom _) (flN)) (flat_slice _ (fun _ => .atom _) _) ?_
  simp -implicitDefEqProofs only [go_sem, Tryd.f23]
  obtain ⟨l1, h2, h⟩ := bind_some' h
  refine .iter _ _ rfl (M_sets_members.w x _ h2) ?_
  try simp -implicitDefEqProofs only [go_sem]
  obtain ⟨s9, h8, h⟩ := bind_some' h
  refine LRange.iter mix fn_23 (LoOk.none _) (by kernel_rfl) (by kernel_rfl) (by rfl) rfl [(32000300, none)] [(2100003, 3)] (by rfl) (by rfl) (by (first | rfl | simp -implicitDefEqProofs only [go_sem] <;> rfl)) (by (first | rfl | simp -implicitDefEqProofs only [go_sem] <;> rfl)) (M_sets_List.r0.w (l1, ([] : List Int)) _ h8 _ ?_)
  intro s0 hs'; subst hs'
  try simp -implicitDefEqProofs only [go_sem]
  injection h with h; subst h
  first | rfl | simp -implicitDefEqProofs only [go_sem] <;> rfl
end Go.Proofs.YtdnnmopncndebaaDoor.G
set_option linter.unusedVariables false
set_option linter.unusedSimpArgs false
set_option maxRecDepth 100000
namespace Go.Proofs.YtdnnmopncndebaaDoor.G
theorem lok_25 : (Tryd.f25.body.isSome && !(Tryd.f25.name == "runtime.NumGoroutine") && okL (bodyF Tryd.f25) Tryd.f25.ntmps (bodyF Tryd.f25)) = true := by kernel_rfl
def M_ref01_power.l0 (x : Int × Set64 × Int) : Option (Set64) :=
  if (decide (x.2.2 < x.1)) = true then
    M_ref01_power.l0 (x.1, (x.2.1 * 2#64), (w64 (x.2.2 + 1)))
  else
    some x.2.1
  partial_fixpoint
theorem M_ref01_power.l0.ws : (∀ (x : Int × Set64 × Int) (o : Set64), M_ref01_power.l0 x = some o → (fun (x : Int × Set64 × Int) (o : Set64) => ∀ (lo : Option Nat) (c : LCtx) (Q : Exit → LEnv → Prop) (hb : ∀ s : Set64, o = s → Q (.exit 0) ⟨[(3, .v (.w s))], []⟩), LLoop Tryd.prog 25 lo c 0 (VQ Q) ⟨[(0, .v (.i64 x.1)), (3, .v (.w x.2.1)), (4, .v (.i64 x.2.2))], []⟩) x o) := by
  refine M_ref01_power.l0.partial_correctness _ ?_
  · intro M_M_ref01_power_l0 ih_M_ref01_power_l0 x o h
    intro lo c Q hb
    refine LLoop.step mix fn_25 (by kernel_rfl) ?_
    simp -implicitDefEqProofs only [go_sem, Tryd.f25]
    by_cases h1 : (decide (x.2.2 < x.1)) = true
    · replace h := ite_some h h1
      try simp -implicitDefEqProofs only [go_sem, h1]
      exact LLoop.view [] (by (first | rfl | simp -implicitDefEqProofs only [go_sem, h1] <;> rfl)) (ih_M_ref01_power_l0 _ _ h lo c Q hb)
    · replace h := ite_none h h1; replace h1 := bfalse h1
      try simp -implicitDefEqProofs only [go_sem, h1]
      injection h with h; subst h
      exact .inr ⟨[], _, by (simp -implicitDefEqProofs only [go_sem, h1] <;> first | done | rfl | trivial), hb _ rfl⟩
theorem M_ref01_power.l0.w : type_of% @M_ref01_power.l0.ws := @M_ref01_power.l0.ws
def M_ref01_power (x : Int) : Option (Set64) :=
  M_ref01_power.l0 (x, 1#64, 0) >>= fun (o2 : Set64) =>
  some o2
set_option maxHeartbeats 8000000 in
theorem M_ref01_power.w : ∀ (x : Int) (r : Set64), M_ref01_power x = some r → (fun (x : Int) (r : Set64) => Fn Tryd.prog 25 [.i64 x] (.w r)) x r := by
  intro x r h
  rw [M_ref01_power] at h
  try dsimp only
  refine Fn.of_lc mix fn_25 lok_25 (by rfl) (flC (.atom _) (flN)) (.atom _) ?_
  simp -implicitDefEqProofs only [go_sem, Tryd.f25]
  obtain ⟨o2, h3, h⟩ := bind_some' h
  refine LLoop.viewQ (LLoop.view [] (by (first | rfl | simp -implicitDefEqProofs only [go_sem] <;> rfl)) (M_ref01_power.l0.w (x, 1#64, 0) _ h3 _ _ _ ?_))
  intro s' hs'; subst hs'
  try simp -implicitDefEqProofs only [go_sem]
  injection h with h; subst h
  first | rfl | simp -implicitDefEqProofs only [go_sem] <;> rfl
end Go.Proofs.YtdnnmopncndebaaDoor.G
set_option linter.unusedVariables false
set_option linter.unusedSimpArgs false
set_option maxRecDepth 100000
namespace Go.Proofs.YtdnnmopncndebaaDoor.G
def M_ref01_Of.l1 (x : List Int × Set64 × Int × Int) : Option (Set64) :=
  if (decide (x.2.2.2 < (x.1.length : Int))) = true then
    (getI x.1 x.2.2.2) >>= fun (e3 : Int) =>
    if (e3 == x.2.2.1) = true then
      M_ref01_power x.2.2.1 >>= fun r6 =>
      some (x.2.1 + r6)
    else
      M_ref01_Of.l1 (x.1, x.2.1, x.2.2.1, (w64 (x.2.2.2 + 1)))
  else
    some x.2.1
  partial_fixpoint
def M_ref01_Of.l0 (x : List Int × Set64 × Int) : Option (Set64) :=
  if (decide (x.2.2 < 64)) = true then
    M_ref01_Of.l1 (x.1, x.2.1, x.2.2, 0) >>= fun (o8 : Set64) =>
    M_ref01_Of.l0 (x.1, o8, (w64 (x.2.2 + 1)))
  else
    some x.2.1
  partial_fixpoint
def M_ref01_Of (x : List Int) : Option (Set64) :=
  M_ref01_Of.l0 (x, 0#64, 0) >>= fun (o10 : Set64) =>
  some o10
end Go.Proofs.YtdnnmopncndebaaDoor.G
set_option linter.unusedVariables false
set_option linter.unusedSimpArgs false
set_option maxRecDepth 100000
namespace Go.Proofs.YtdnnmopncndebaaDoor.G
theorem lok_26 : (Tryd.f26.body.isSome && !(Tryd.f26.name == "runtime.NumGoroutine") && okL (bodyF Tryd.f26) Tryd.f26.ntmps (bodyF Tryd.f26)) = true := by kernel_rfl
def M_ref01_Has (x : Set64 × Int) : Option (Bool) :=
  if (decide (x.2 ≥ 0)) = true then
    if (decide (x.2 < 64)) = true then
      M_ref01_power x.2 >>= fun r3 =>
      if r3 = 0#64 then none else
      some (((x.1 / r3) % 2#64) == 1#64)
    else
      some false
  else
    some false
set_option maxHeartbeats 8000000 in
theorem M_ref01_Has.w : ∀ (x : Set64 × Int) (r : Bool), M_ref01_Has x = some r → (fun (x : Set64 × Int) (r : Bool) => Fn Tryd.prog 26 [.w x.1, .i64 x.2] (.bool r)) x r := by
  intro x r h
  rw [M_ref01_Has] at h
  try dsimp only
  refine Fn.of_lc mix fn_26 lok_26 (by rfl) (flC (.atom _) (flC (.atom _) (flN))) (.atom _) ?_
  simp -implicitDefEqProofs only [go_sem, Tryd.f26]
  by_cases h1 : (decide (x.2 ≥ 0)) = true
  · replace h := ite_some h h1
    try simp -implicitDefEqProofs only [go_sem, h1]
    by_cases h2 : (decide (x.2 < 64)) = true
    · replace h := ite_some h h2
      try simp -implicitDefEqProofs only [go_sem, h1, h2]
      obtain ⟨r3, h4, h⟩ := bind_some' h
      refine .plain _ _ rfl (M_ref01_power.w x.2 _ h4) ?_
      try simp -implicitDefEqProofs only [go_sem, h1, h2]
      obtain ⟨h5, h⟩ := nz_some h
      try simp -implicitDefEqProofs only [go_sem, h1, h2, h5]
      injection h with h; subst h
      first | rfl | simp -implicitDefEqProofs only [go_sem, h1, h2, h5] <;> rfl
    · replace h := ite_none h h2; replace h2 := bfalse h2
      try simp -implicitDefEqProofs only [go_sem, h1, h2]
      injection h with h; subst h
      first | rfl | simp -implicitDefEqProofs only [go_sem, h1, h2] <;> rfl
  · replace h := ite_none h h1; replace h1 := bfalse h1
    try simp -implicitDefEqProofs only [go_sem, h1]
    injection h with h; subst h
    first | rfl | simp -implicitDefEqProofs only [go_sem, h1] <;> rfl
end Go.Proofs.YtdnnmopncndebaaDoor.G
set_option linter.unusedVariables false
set_option linter.unusedSimpArgs false
set_option maxRecDepth 100000
namespace Go.Proofs.YtdnnmopncndebaaDoor.G
def M_ref01_In.l0 (x : Set64 × Set64 × Int) : Option (Lp (Unit) (Bool)) :=
  if (decide (x.2.2 < 64)) = true then
    M_ref01_Has (x.1, x.2.2) >>= fun r2 =>
    if r2 = true then
      M_ref01_Has (x.2.1, x.2.2) >>= fun r5 =>
      if r5 = true then
        M_ref01_In.l0 (x.1, x.2.1, (w64 (x.2.2 + 1)))
      else
        some (.ret false)
    else
      M_ref01_In.l0 (x.1, x.2.1, (w64 (x.2.2 + 1)))
  else
    some (.brk ())
  partial_fixpoint
def M_ref01_In (x : Set64 × Set64) : Option (Bool) :=
  M_ref01_In.l0 (x.1, x.2, 0) >>= fun (o8 : Lp (Unit) (Bool)) => match o8 with
  | .brk s11 =>
    some true
  | .ret r10 =>
    some r10
end Go.Proofs.YtdnnmopncndebaaDoor.G
set_option linter.unusedVariables false
set_option linter.unusedSimpArgs false
set_option maxRecDepth 100000
namespace Go.Proofs.YtdnnmopncndebaaDoor.G
theorem lok_21 : (Tryd.f21.body.isSome && !(Tryd.f21.name == "runtime.NumGoroutine") && okL (bodyF Tryd.f21) Tryd.f21.ntmps (bodyF Tryd.f21)) = true := by kernel_rfl
def M_ref01_List.l0 (x : Set64 × List Int × Int) : Option (List Int) :=
  if (decide (x.2.2 < 64)) = true then
    M_ref01_Has (x.1, x.2.2) >>= fun r2 =>
    if r2 = true then
      (room 8 x.2.1 ([x.2.2])) >>= fun (z5 : List Int) =>
      M_ref01_List.l0 (x.1, z5, (w64 (x.2.2 + 1)))
    else
      M_ref01_List.l0 (x.1, x.2.1, (w64 (x.2.2 + 1)))
  else
    some x.2.1
  partial_fixpoint
theorem M_ref01_List.l0.ws : (∀ (x : Set64 × List Int × Int) (o : List Int), M_ref01_List.l0 x = some o → (fun (x : Set64 × List Int × Int) (o : List Int) => ∀ (lo : Option Nat) (c : LCtx) (Q : Exit → LEnv → Prop) (hb : ∀ s : List Int, o = s → Q (.exit 0) ⟨[(3, .own 100300 1 (s.map AV.i64))], []⟩), LLoop Tryd.prog 21 lo c 0 (VQ Q) ⟨[(0, .v (.w x.1)), (3, .own 100300 1 (x.2.1.map AV.i64)), (4, .v (.i64 x.2.2))], []⟩) x o) := by
  refine M_ref01_List.l0.partial_correctness _ ?_
  · intro M_M_ref01_List_l0 ih_M_ref01_List_l0 x o h
    intro lo c Q hb
    refine LLoop.step mix fn_21 (by kernel_rfl) ?_
    simp -implicitDefEqProofs only [go_sem, Tryd.f21]
    by_cases h1 : (decide (x.2.2 < 64)) = true
    · replace h := ite_some h h1
      try simp -implicitDefEqProofs only [go_sem, h1]
      obtain ⟨r2, h3, h⟩ := bind_some' h
      refine .plain _ _ rfl (M_ref01_Has.w (x.1, x.2.2) _ h3) ?_
      try simp -implicitDefEqProofs only [go_sem, h1]
      by_cases h4 : r2 = true
      · replace h := ite_some h h4
        try simp -implicitDefEqProofs only [go_sem, h1, h4]
        obtain ⟨z5, h6, h⟩ := bind_some' h; replace h6 := room_some h6; obtain ⟨h6', rfl⟩ := h6
        refine LApp.map (F := AV.i64) (xs := x.2.1) (ys := [x.2.2]) t41_elem t3_size t3_bytes t3_zsize rfl (fun _ => rfl) (by (first | rfl | simp -implicitDefEqProofs only [go_sem, h1, h4] <;> rfl)) (by (first | rfl | simp -implicitDefEqProofs only [go_sem, h1, h4] <;> rfl)) h6' ?_
        try simp -implicitDefEqProofs only [go_sem, h1, h4]
        exact LLoop.view [(100300, some 16)] (by (first | rfl | simp -implicitDefEqProofs only [go_sem, h1, h4] <;> rfl)) (ih_M_ref01_List_l0 _ _ h lo c Q hb)
      · replace h := ite_none h h4; replace h4 := bfalse h4
        try simp -implicitDefEqProofs only [go_sem, h1, h4]
        exact LLoop.view [(100300, some 100300)] (by (first | rfl | simp -implicitDefEqProofs only [go_sem, h1, h4] <;> rfl)) (ih_M_ref01_List_l0 _ _ h lo c Q hb)
    · replace h := ite_none h h1; replace h1 := bfalse h1
      try simp -implicitDefEqProofs only [go_sem, h1]
      injection h with h; subst h
      exact .inr ⟨[(100300, some 100300)], _, by (simp -implicitDefEqProofs only [go_sem, h1] <;> first | done | rfl | trivial), hb _ rfl⟩
theorem M_ref01_List.l0.w : type_of% @M_ref01_List.l0.ws := @M_ref01_List.l0.ws
def M_ref01_List (x : Set64) : Option (List Int) :=
  M_ref01_List.l0 (x, ([] : List Int), 0) >>= fun (o7 : List Int) =>
  some o7
set_option maxHeartbeats 8000000 in
theorem M_ref01_List.w : ∀ (x : Set64) (r : List Int), M_ref01_List x = some r → (fun (x : Set64) (r : List Int) => Fn Tryd.prog 21 [.w x] (.slice .foreign (r.map AV.i64))) x r := by
  intro x r h
  rw [M_ref01_List] at h
  try dsimp only
  refine Fn.of_lc mix fn_21 lok_21 (by rfl) (flC (.atom _) (flN)) (flat_slice _ (fun _ => .atom _) _) ?_
  simp -implicitDefEqProofs only [go_sem, Tryd.f21]
  obtain ⟨o7, h8, h⟩ := bind_some' h
  refine LLoop.viewQ (LLoop.view [(100300, none)] (by (first | rfl | simp -implicitDefEqProofs only [go_sem] <;> rfl)) (M_ref01_List.l0.w (x, ([] : List Int), 0) _ h8 _ _ _ ?_))
  intro s' hs'; subst hs'
  try simp -implicitDefEqProofs only [go_sem]
  injection h with h; subst h
  first | rfl | simp -implicitDefEqProofs only [go_sem] <;> rfl
end Go.Proofs.YtdnnmopncndebaaDoor.G
set_option linter.unusedVariables false
set_option linter.unusedSimpArgs false
namespace Go.Proofs.YtdnnmopncndebaaDoor.G

theorem w64_of {x : Int} (h1 : -9223372036854775808 ≤ x) (h2 : x < 9223372036854775808) : w64 x = x := by
  simp only [w64, IntKind.wrap, IntKind.bits, IntKind.signed, Bool.true_and, decide_eq_true_eq, Nat.reduceSub, Int.reducePow, ge_iff_le]
  split <;> omega
theorem w64_succ {i : Nat} (h : i + 1 < 9223372036854775808) : w64 ((i : Int) + 1) = ((i + 1 : Nat) : Int) := by
  rw [w64_of (by omega) (by omega)]; omega
theorem getI_nat {α : Type} {l : List α} {i : Nat} (h : i < l.length) : getI l (i : Int) = some l[i] := by
  unfold getI
  rw [if_pos (by omega), Int.toNat_natCast, List.getElem?_eq_getElem h]
theorem room_of {α : Type} {b : Nat} {xs ys : List α} (h : (xs.length + ys.length) * b ≤ 140737488355328) : room b xs ys = some (xs ++ ys) := if_pos h
/-- A loop over a list, from a place on. -/
theorem loop_inv {α σ ρ : Type} (l : List α) (I : Nat → σ → Prop) (F : Nat → σ → ρ) (G : σ → List α → ρ) (h0 : ∀ s, I l.length s → F l.length s = G s [])
    (hs : ∀ i s (h : i < l.length), I i s → (∀ s', I (i + 1) s' → F (i + 1) s' = G s' (l.drop (i + 1))) → F i s = G s (l[i] :: l.drop (i + 1))) : ∀ i s, i ≤ l.length → I i s → F i s = G s (l.drop i) := by
  have key : ∀ n i s, l.length - i = n → i ≤ l.length → I i s → F i s = G s (l.drop i) := by
    intro n
    induction n with
    | zero =>
      intro i s h1 h2 hi
      obtain rfl : i = l.length := by omega
      rw [List.drop_length]; exact h0 s hi
    | succ n ih =>
      intro i s h1 h2 hi
      have hlt : i < l.length := by omega
      rw [List.drop_eq_getElem_cons hlt]
      exact hs i s hlt hi (fun s' hi' => ih (i + 1) s' (by omega) (by omega) hi')
  intro i s h hi
  exact key _ i s rfl h hi
theorem loop_all {α σ ρ : Type} (l : List α) (F : Nat → σ → ρ) (G : σ → List α → ρ) (h0 : ∀ s, F l.length s = G s [])
    (hs : ∀ i s (h : i < l.length), (∀ s', F (i + 1) s' = G s' (l.drop (i + 1))) → F i s = G s (l[i] :: l.drop (i + 1))) (s : σ) : F 0 s = G s l := by
  have := loop_inv l (fun _ _ => True) F G (fun s _ => h0 s) (fun i s h _ ih => hs i s h (fun s' => ih s' trivial)) 0 s (Nat.zero_le _) trivial
  rwa [List.drop_zero] at this
theorem dlt {a b : Int} (h : a < b) : (decide (a < b)) = true := decide_eq_true h
theorem dge {a b : Int} (h : ¬ a < b) : ¬ (decide (a < b)) = true := by simpa using h

/- Sets. -/
def bitI (n : Int) : Set64 := if 0 ≤ n ∧ n < 64 then 1#64 <<< n.toNat else 0#64
def hasI (s : Set64) (n : Int) : Bool := decide (0 ≤ n ∧ n < 64) && s.getLsbD n.toNat
def ofL (l : List Int) : Set64 := l.foldl (fun s n => s ||| bitI n) 0#64
theorem bitI_lsb (n : Int) (i : Nat) : (bitI n).getLsbD i = (decide (i < 64) && decide (n = (i : Int))) := by
  unfold bitI
  split
  · rename_i h
    obtain ⟨k, rfl⟩ : ∃ k : Nat, n = k := ⟨n.toNat, by omega⟩
    rw [Int.toNat_natCast]
    have : (1#64 <<< k) = BitVec.twoPow 64 k := rfl
    rw [this, BitVec.getLsbD_twoPow]
    rw [Bool.eq_iff_iff]
    simp only [Bool.and_eq_true, decide_eq_true_eq]
    omega
  · rename_i h
    rw [BitVec.getLsbD_zero]
    by_cases h1 : i < 64
    · have : n ≠ (i : Int) := by omega
      simp [this]
    · simp [h1]
theorem sets_one_eq (n : Int) : M_sets_one n = some (bitI n) := by
  unfold M_sets_one bitI
  by_cases h1 : n < 0
  · rw [if_pos (by simpa using h1), if_neg (by omega)]
  · rw [if_neg (by simpa using h1)]
    by_cases h2 : n ≥ 64
    · rw [if_pos (by simpa using h2), if_neg (by omega)]
    · rw [if_neg (by simpa using h2), if_pos (by omega)]
      congr 2
      rw [BitVec.toNat_ofInt]; omega
theorem foldl_or (l : List Int) (s : Set64) : l.foldl (fun s n => s ||| bitI n) s = s ||| ofL l := by
  unfold ofL
  have : ∀ (l : List Int) (s : Set64), l.foldl (fun s n => s ||| bitI n) s = s ||| l.foldl (fun s n => s ||| bitI n) 0#64 := by
    intro l
    induction l with
    | nil => intro s; simp
    | cons x l ih =>
      intro s
      simp only [List.foldl_cons]
      rw [ih (s ||| bitI x), ih (0#64 ||| bitI x), BitVec.zero_or, BitVec.or_assoc]
  exact this l s
theorem ofL_cons (x : Int) (l : List Int) : ofL (x :: l) = bitI x ||| ofL l := by
  unfold ofL
  simp only [List.foldl_cons]
  rw [foldl_or, BitVec.zero_or]; rfl
theorem ofL_nil : ofL [] = 0#64 := rfl
theorem ofL_lsb (l : List Int) (i : Nat) (h : i < 64) : (ofL l).getLsbD i = l.any fun n => decide (n = (i : Int)) := by
  induction l with
  | nil => simp [ofL_nil]
  | cons x l ih => rw [ofL_cons, BitVec.getLsbD_or, ih, bitI_lsb, List.any_cons]; simp [h]
theorem sets_Of_eq (l : List Int) (hl : l.length < 9223372036854775808) : M_sets_Of l = some (ofL l) := by
  have key := loop_all l (fun i (s : Set64) => M_sets_Of.l0 (s, l, (l.length : Int), (i : Int))) (fun s l => some (l.foldl (fun s n => s ||| bitI n) s)) (fun s => by
      show M_sets_Of.l0 _ = _
      rw [M_sets_Of.l0, if_neg (dge (by dsimp only; omega))]; rfl)
    (fun i s h ih => by
      show M_sets_Of.l0 _ = _
      rw [M_sets_Of.l0, if_pos (dlt (by dsimp only; omega))]
      dsimp only
      rw [getI_nat h]
      simp only [Option.bind_eq_bind, Option.bind_some, sets_one_eq]
      rw [w64_succ (by omega)]
      exact ih (s ||| bitI l[i])) 0#64
  unfold M_sets_Of
  have key' : M_sets_Of.l0 (0#64, l, (l.length : Int), 0) = some (ofL l) := key
  rw [key']; rfl

theorem power_eq (n : Nat) (h : n < 64) : M_ref01_power (n : Int) = some (BitVec.twoPow 64 n) := by
  have key : ∀ k i, n - i = k → i ≤ n → M_ref01_power.l0 ((n : Int), BitVec.twoPow 64 i, (i : Int)) = some (BitVec.twoPow 64 n) := by
    intro k
    induction k with
    | zero =>
      intro i h1 h2
      obtain rfl : i = n := by omega
      rw [M_ref01_power.l0, if_neg (dge (by dsimp only; omega))]
    | succ k ih =>
      intro i h1 h2
      rw [M_ref01_power.l0, if_pos (dlt (by dsimp only; omega))]
      dsimp only
      rw [w64_succ (by omega)]
      have : BitVec.twoPow 64 i * 2#64 = BitVec.twoPow 64 (i + 1) := by
        apply BitVec.eq_of_toNat_eq
        rw [BitVec.toNat_mul, BitVec.toNat_twoPow, BitVec.toNat_twoPow]
        simp only [BitVec.toNat_ofNat]
        rw [Nat.pow_succ]
        omega
      rw [this]
      exact ih (i + 1) (by omega) (by omega)
  unfold M_ref01_power
  have := key n 0 (by omega) (by omega)
  rw [show BitVec.twoPow 64 0 = 1#64 from rfl] at this
  rw [show ((0 : Nat) : Int) = 0 from rfl] at this
  rw [this]; rfl
theorem ref01_Has_eq (s : Set64) (n : Int) : M_ref01_Has (s, n) = some (hasI s n) := by
  unfold M_ref01_Has hasI
  dsimp only
  by_cases h1 : n ≥ 0
  · rw [if_pos (by simpa using h1)]
    by_cases h2 : n < 64
    · rw [if_pos (by simpa using h2)]
      obtain ⟨k, rfl⟩ : ∃ k : Nat, n = k := ⟨n.toNat, by omega⟩
      rw [power_eq k (by omega)]
      simp only [Option.bind_eq_bind, Option.bind_some, Int.toNat_natCast]
      have hk : k < 64 := by omega
      have h0 : BitVec.twoPow 64 k ≠ 0#64 := by
        intro e
        have := congrArg (fun x => x.getLsbD k) e
        simp [BitVec.getLsbD_twoPow, hk] at this
      rw [if_neg h0]
      congr 1
      have h3 : (0 ≤ (k : Int) ∧ (k : Int) < 64) := by omega
      simp only [h3, decide_true, Bool.true_and]
      rw [Bool.eq_iff_iff, beq_iff_eq, ← BitVec.toNat_inj, BitVec.toNat_umod, BitVec.toNat_udiv, BitVec.toNat_twoPow]
      have e : (2 ^ k % 2 ^ 64) = 2 ^ k := Nat.mod_eq_of_lt (Nat.pow_lt_pow_right (by omega) hk)
      rw [e]
      simp only [BitVec.toNat_ofNat]
      show s.toNat / 2 ^ k % 2 = 1 ↔ s.toNat.testBit k = true
      rw [Nat.testBit_eq_decide_div_mod_eq]
      simp
    · rw [if_neg (by simpa using h2)]
      simp only [h2, and_false, decide_false, Bool.false_and]
  · rw [if_neg (by simpa using h1)]
    have : ¬ (0 ≤ n ∧ n < 64) := by omega
    simp only [this, decide_false, Bool.false_and]
theorem hasI_nat (s : Set64) (k : Nat) (h : k < 64) : hasI s (k : Int) = s.getLsbD k := by
  unfold hasI
  have : (0 ≤ (k : Int) ∧ (k : Int) < 64) := by omega
  rw [decide_eq_true this, Bool.true_and, Int.toNat_natCast]
/-- The members below a place. -/
def upTo (f : Nat → Bool) : Nat → Set64
  | 0 => 0#64
  | i + 1 => if f i = true then upTo f i + BitVec.twoPow 64 i else upTo f i
theorem upTo_lsb (f : Nat → Bool) : ∀ (n : Nat), n ≤ 64 → ∀ j, (upTo f n).getLsbD j = (decide (j < n) && f j) := by
  intro n
  induction n with
  | zero => intro _ j; simp [upTo]
  | succ n ih =>
    intro hn j
    have ih := ih (by omega)
    simp only [upTo]
    split
    · rename_i hf
      have h0 : upTo f n &&& BitVec.twoPow 64 n = 0#64 := by
        apply BitVec.eq_of_getLsbD_eq
        intro k hk
        rw [BitVec.getLsbD_and, ih, BitVec.getLsbD_twoPow, BitVec.getLsbD_zero]
        by_cases e : n = k
        · subst e; simp
        · simp [e]
      rw [BitVec.add_eq_or_of_and_eq_zero _ _ h0, BitVec.getLsbD_or, ih, BitVec.getLsbD_twoPow]
      rw [Bool.eq_iff_iff]
      simp only [Bool.or_eq_true, Bool.and_eq_true, decide_eq_true_eq]
      constructor
      · rintro (⟨h1, h2⟩ | ⟨h1, h2⟩)
        · exact ⟨by omega, h2⟩
        · exact ⟨by omega, h2 ▸ hf⟩
      · rintro ⟨h1, h2⟩
        by_cases e : j = n
        · exact .inr ⟨by omega, e.symm⟩
        · exact .inl ⟨by omega, h2⟩
    · rename_i hf
      rw [ih]
      rw [Bool.eq_iff_iff]
      simp only [Bool.and_eq_true, decide_eq_true_eq]
      constructor
      · rintro ⟨h1, h2⟩; exact ⟨by omega, h2⟩
      · rintro ⟨h1, h2⟩
        refine ⟨?_, h2⟩
        rcases Nat.lt_or_ge j n with h3 | h3
        · exact h3
        · obtain rfl : j = n := by omega
          exact absurd h2 hf
theorem ref01_Of_eq (l : List Int) (hl : l.length < 9223372036854775808) : M_ref01_Of l = some (ofL l) := by
  have inner : ∀ (i : Nat), i < 64 → ∀ s, M_ref01_Of.l1 (l, s, (i : Int), 0) = some (if (l.any fun n => decide (n = (i : Int))) = true then s + BitVec.twoPow 64 i else s) := by
    intro i hi s
    exact loop_all l (fun k (s : Set64) => M_ref01_Of.l1 (l, s, (i : Int), (k : Int))) (fun s l => some (if (l.any fun n => decide (n = (i : Int))) = true then s + BitVec.twoPow 64 i else s)) (fun s => by
      show M_ref01_Of.l1 _ = _
      rw [M_ref01_Of.l1, if_neg (dge (by dsimp only; omega))]; simp)
      (fun k s h ih => by
      show M_ref01_Of.l1 _ = _
      rw [M_ref01_Of.l1, if_pos (dlt (by dsimp only; omega))]
      dsimp only
      rw [getI_nat h]
      simp only [Option.bind_eq_bind, Option.bind_some]
      by_cases e : l[k] = (i : Int)
      · rw [if_pos (by simpa using e), power_eq i hi]
        simp [e]
      · rw [if_neg (by simpa using e), w64_succ (by omega)]
        rw [ih s, List.any_cons, decide_eq_false e, Bool.false_or]) s
  have outer : ∀ k i, 64 - i = k → i ≤ 64 → M_ref01_Of.l0 (l, upTo (fun j => l.any fun n => decide (n = (j : Int))) i, (i : Int)) = some (upTo (fun j => l.any fun n => decide (n = (j : Int))) 64) := by
    intro k
    induction k with
    | zero =>
      intro i h1 h2
      obtain rfl : i = 64 := by omega
      rw [M_ref01_Of.l0, if_neg (dge (by dsimp only; omega))]
    | succ k ih =>
      intro i h1 h2
      rw [M_ref01_Of.l0, if_pos (dlt (by dsimp only; omega))]
      dsimp only
      rw [inner i (by omega)]
      simp only [Option.bind_eq_bind, Option.bind_some]
      rw [w64_succ (by omega)]
      have := ih (i + 1) (by omega) (by omega)
      simp only [upTo] at this
      exact this
  unfold M_ref01_Of
  have h := outer 64 0 (by omega) (by omega)
  rw [show ((0 : Nat) : Int) = 0 from rfl, show upTo (fun j => l.any fun n => decide (n = (j : Int))) 0 = 0#64 from rfl] at h
  rw [h]
  simp only [Option.bind_eq_bind, Option.bind_some]
  congr 1
  apply BitVec.eq_of_getLsbD_eq
  intro j hj
  rw [upTo_lsb _ 64 (by omega), ofL_lsb l j hj]
  simp [hj]
def inS (a b : Set64) : Bool := (a &&& ~~~b) == 0#64
theorem inS_iff (a b : Set64) : inS a b = true ↔ ∀ j, j < 64 → a.getLsbD j = true → b.getLsbD j = true := by
  unfold inS
  rw [beq_iff_eq]
  constructor
  · intro h j hj ha
    have := congrArg (fun x => x.getLsbD j) h
    simp only [BitVec.getLsbD_and, BitVec.getLsbD_not, hj, decide_true, Bool.true_and, BitVec.getLsbD_zero, ha] at this
    simpa using this
  · intro h
    apply BitVec.eq_of_getLsbD_eq
    intro j hj
    simp only [BitVec.getLsbD_and, BitVec.getLsbD_not, hj, decide_true, Bool.true_and, BitVec.getLsbD_zero]
    cases ha : a.getLsbD j with
    | false => simp
    | true => rw [h j hj ha]; simp
theorem ref01_In_eq (a b : Set64) : M_ref01_In (a, b) = some (inS a b) := by
  have key : ∀ (k i : Nat), 64 - i = k → i ≤ 64 → M_ref01_In.l0 (a, b, (i : Int)) = some (if (∀ j : Nat, j < 64 → i ≤ j → a.getLsbD j = true → b.getLsbD j = true) then .brk () else .ret false) := by
    intro k
    induction k with
    | zero =>
      intro i h1 h2
      obtain rfl : i = 64 := by omega
      rw [M_ref01_In.l0, if_neg (dge (by dsimp only; omega)), if_pos (fun j h3 h4 => by omega)]
    | succ k ih =>
      intro i h1 h2
      have hi : i < 64 := by omega
      rw [M_ref01_In.l0, if_pos (dlt (by dsimp only; omega))]
      dsimp only
      rw [ref01_Has_eq, ref01_Has_eq, hasI_nat _ _ hi, hasI_nat _ _ hi, w64_succ (by omega)]
      simp only [Option.bind_eq_bind, Option.bind_some]
      rw [ih (i + 1) (by omega) (by omega)]
      have split : (∀ j, j < 64 → i ≤ j → a.getLsbD j = true → b.getLsbD j = true) ↔ (a.getLsbD i = true → b.getLsbD i = true) ∧ ∀ j, j < 64 → i + 1 ≤ j → a.getLsbD j = true → b.getLsbD j = true := by
        constructor
        · intro h; exact ⟨h i hi (Nat.le_refl _), fun j h3 h4 => h j h3 (by omega)⟩
        · rintro ⟨h, h'⟩ j h3 h4 h5
          by_cases e : j = i
          · subst e; exact h h5
          · exact h' j h3 (by omega) h5
      cases ha : a.getLsbD i with
      | false =>
        rw [if_neg (by simp)]
        congr 1
        simp only [split, ha]
        simp
      | true =>
        rw [if_pos rfl]
        cases hb : b.getLsbD i with
        | false =>
          rw [if_neg (by simp), if_neg (by rw [split, ha, hb]; simp)]
        | true =>
          rw [if_pos rfl]
          congr 1
          simp only [split, ha, hb]
          simp
  unfold M_ref01_In
  have h := key 64 0 (by omega) (by omega)
  rw [show ((0 : Nat) : Int) = 0 from rfl] at h
  dsimp only
  rw [h]
  by_cases hi : inS a b = true
  · rw [if_pos (fun j h1 _ h2 => (inS_iff a b).1 hi j h1 h2), hi]; rfl
  · rw [if_neg (fun hh => hi ((inS_iff a b).2 fun j h1 h2 => hh j h1 (Nat.zero_le _) h2))]
    simp only [Bool.not_eq_true] at hi
    rw [hi]; rfl
end Go.Proofs.YtdnnmopncndebaaDoor.G
set_option linter.unusedVariables false
set_option linter.unusedSimpArgs false
set_option maxRecDepth 100000
namespace Go.Proofs.YtdnnmopncndebaaDoor.G
theorem lok_10 : (Tryd.f10.body.isSome && !(Tryd.f10.name == "runtime.NumGoroutine") && okL (bodyF Tryd.f10) Tryd.f10.ntmps (bodyF Tryd.f10)) = true := by kernel_rfl
def M_ref01_Count (x : Set64) : Option (Int) :=
  M_ref01_List x >>= fun r1 =>
  some (r1.length : Int)
set_option maxHeartbeats 8000000 in
theorem M_ref01_Count.w : ∀ (x : Set64) (r : Int), M_ref01_Count x = some r → (fun (x : Set64) (r : Int) => Fn Tryd.prog 10 [.w x] (.i64 r)) x r := by
  intro x r h
  rw [M_ref01_Count] at h
  try dsimp only
  refine Fn.of_lc mix fn_10 lok_10 (by rfl) (flC (.atom _) (flN)) (.atom _) ?_
  simp -implicitDefEqProofs only [go_sem, Tryd.f10]
  obtain ⟨r1, h2, h⟩ := bind_some' h
  refine .plain _ _ rfl (M_ref01_List.w x _ h2) ?_
  try simp -implicitDefEqProofs only [go_sem]
  injection h with h; subst h
  first | rfl | simp -implicitDefEqProofs only [go_sem] <;> rfl
end Go.Proofs.YtdnnmopncndebaaDoor.G
set_option linter.unusedVariables false
set_option linter.unusedSimpArgs false
set_option maxRecDepth 100000
namespace Go.Proofs.YtdnnmopncndebaaDoor.G
theorem lok_14 : (Tryd.f14.body.isSome && !(Tryd.f14.name == "runtime.NumGoroutine") && okL (bodyF Tryd.f14) Tryd.f14.ntmps (bodyF Tryd.f14)) = true := by kernel_rfl
def M_ref01_Parts.l1 (x : List Int × List Set64 × Int × Set64 × Int) : Option (Set64) :=
  if (decide (x.2.2.2.2 < (x.1.length : Int))) = true then
    M_ref01_Has ((BitVec.ofInt 64 x.2.2.1), x.2.2.2.2) >>= fun r7 =>
    if r7 = true then
      (getI x.1 x.2.2.2.2) >>= fun (e10 : Int) =>
      M_ref01_power e10 >>= fun r12 =>
      M_ref01_Parts.l1 (x.1, x.2.1, x.2.2.1, (x.2.2.2.1 + r12), (w64 (x.2.2.2.2 + 1)))
    else
      M_ref01_Parts.l1 (x.1, x.2.1, x.2.2.1, x.2.2.2.1, (w64 (x.2.2.2.2 + 1)))
  else
    some x.2.2.2.1
  partial_fixpoint
theorem M_ref01_Parts.l1.ws : (∀ (x : List Int × List Set64 × Int × Set64 × Int) (o : Set64), M_ref01_Parts.l1 x = some o → (fun (x : List Int × List Set64 × Int × Set64 × Int) (o : Set64) => ∀ (lo : Option Nat) (c : LCtx) (Q : Exit → LEnv → Prop) (hb : ∀ s : Set64, o = s → Q (.exit 2) ⟨[(3, .v (.slice .foreign (x.1.map AV.i64))), (4, .own 100400 1 (x.2.1.map AV.w)), (5, .v (.i64 x.2.2.1)), (6, .v (.w s))], []⟩), LLoop Tryd.prog 14 lo c 1 (VQ Q) ⟨[(3, .v (.slice .foreign (x.1.map AV.i64))), (4, .own 100400 1 (x.2.1.map AV.w)), (5, .v (.i64 x.2.2.1)), (6, .v (.w x.2.2.2.1)), (7, .v (.i64 x.2.2.2.2))], []⟩) x o) := by
  refine M_ref01_Parts.l1.partial_correctness _ ?_
  · intro M_M_ref01_Parts_l1 ih_M_ref01_Parts_l1 x o h
    intro lo c Q hb
    refine LLoop.step mix fn_14 (by kernel_rfl) ?_
    simp -implicitDefEqProofs only [go_sem, Tryd.f14]
    by_cases h6 : (decide (x.2.2.2.2 < (x.1.length : Int))) = true
    · replace h := ite_some h h6
      try simp -implicitDefEqProofs only [go_sem, h6]
      obtain ⟨r7, h8, h⟩ := bind_some' h
      refine .plain _ _ rfl (M_ref01_Has.w ((BitVec.ofInt 64 x.2.2.1), x.2.2.2.2) _ h8) ?_
      try simp -implicitDefEqProofs only [go_sem, h6]
      by_cases h9 : r7 = true
      · replace h := ite_some h h9
        try simp -implicitDefEqProofs only [go_sem, h6, h9]
        obtain ⟨e10, h11, h⟩ := bind_some' h; replace h11 := getI_some h11; obtain ⟨h11', h11⟩ := h11
        try simp -implicitDefEqProofs only [go_sem, h6, h9, h11, h11']
        obtain ⟨r12, h13, h⟩ := bind_some' h
        refine .plain _ _ rfl (M_ref01_power.w e10 _ h13) ?_
        try simp -implicitDefEqProofs only [go_sem, h6, h9, h11, h11']
        exact LLoop.view [(100400, some 100400)] (by (first | rfl | simp -implicitDefEqProofs only [go_sem, h6, h9, h11, h11'] <;> rfl)) (ih_M_ref01_Parts_l1 _ _ h lo c Q hb)
      · replace h := ite_none h h9; replace h9 := bfalse h9
        try simp -implicitDefEqProofs only [go_sem, h6, h9]
        exact LLoop.view [(100400, some 100400)] (by (first | rfl | simp -implicitDefEqProofs only [go_sem, h6, h9] <;> rfl)) (ih_M_ref01_Parts_l1 _ _ h lo c Q hb)
    · replace h := ite_none h h6; replace h6 := bfalse h6
      try simp -implicitDefEqProofs only [go_sem, h6]
      injection h with h; subst h
      exact .inr ⟨[(100400, some 100400)], _, by (simp -implicitDefEqProofs only [go_sem, h6] <;> first | done | rfl | trivial), hb _ rfl⟩
theorem M_ref01_Parts.l1.w : type_of% @M_ref01_Parts.l1.ws := @M_ref01_Parts.l1.ws
def M_ref01_Parts.l0 (x : List Int × List Set64 × Int) : Option (List Set64) :=
  M_ref01_power (x.1.length : Int) >>= fun r3 =>
  if (decide (x.2.2 < (w64 (r3.toNat : Int)))) = true then
    M_ref01_Parts.l1 (x.1, x.2.1, x.2.2, 0#64, 0) >>= fun (o14 : Set64) =>
    (room 8 x.2.1 ([o14])) >>= fun (z16 : List Set64) =>
    M_ref01_Parts.l0 (x.1, z16, (w64 (x.2.2 + 1)))
  else
    some x.2.1
  partial_fixpoint
theorem M_ref01_Parts.l0.ws : (∀ (x : List Int × List Set64 × Int) (o : List Set64), M_ref01_Parts.l0 x = some o → (fun (x : List Int × List Set64 × Int) (o : List Set64) => ∀ (lo : Option Nat) (c : LCtx) (Q : Exit → LEnv → Prop) (hb : ∀ s : List Set64, o = s → Q (.exit 0) ⟨[(4, .own 100400 1 (s.map AV.w))], []⟩), LLoop Tryd.prog 14 lo c 0 (VQ Q) ⟨[(3, .v (.slice .foreign (x.1.map AV.i64))), (4, .own 100400 1 (x.2.1.map AV.w)), (5, .v (.i64 x.2.2))], []⟩) x o) := by
  refine M_ref01_Parts.l0.partial_correctness _ ?_
  · intro M_M_ref01_Parts_l0 ih_M_ref01_Parts_l0 x o h
    intro lo c Q hb
    refine LLoop.step mix fn_14 (by kernel_rfl) ?_
    simp -implicitDefEqProofs only [go_sem, Tryd.f14]
    obtain ⟨r3, h4, h⟩ := bind_some' h
    refine .plain _ _ rfl (M_ref01_power.w (x.1.length : Int) _ h4) ?_
    try simp -implicitDefEqProofs only [go_sem]
    by_cases h5 : (decide (x.2.2 < (w64 (r3.toNat : Int)))) = true
    · replace h := ite_some h h5
      try simp -implicitDefEqProofs only [go_sem, h5]
      obtain ⟨o14, h15, h⟩ := bind_some' h
      refine LLoop.viewQ (LLoop.view [(100400, some 100400)] (by (first | rfl | simp -implicitDefEqProofs only [go_sem, h5] <;> rfl)) (M_ref01_Parts.l1.w (x.1, x.2.1, x.2.2, 0#64, 0) _ h15 _ _ _ ?_))
      intro s' hs'; subst hs'
      try simp -implicitDefEqProofs only [go_sem, h5]
      obtain ⟨z16, h17, h⟩ := bind_some' h; replace h17 := room_some h17; obtain ⟨h17', rfl⟩ := h17
      refine LApp.map (F := AV.w) (xs := x.2.1) (ys := [o14]) t30_elem t23_size t23_bytes t23_zsize rfl (fun _ => rfl) (by (first | rfl | simp -implicitDefEqProofs only [go_sem, h5] <;> rfl)) (by (first | rfl | simp -implicitDefEqProofs only [go_sem, h5] <;> rfl)) h17' ?_
      try simp -implicitDefEqProofs only [go_sem, h5]
      exact LLoop.view [(100400, some 39)] (by (first | rfl | simp -implicitDefEqProofs only [go_sem, h5] <;> rfl)) (ih_M_ref01_Parts_l0 _ _ h lo c Q hb)
    · replace h := ite_none h h5; replace h5 := bfalse h5
      try simp -implicitDefEqProofs only [go_sem, h5]
      injection h with h; subst h
      exact .inr ⟨[(100400, some 100400)], _, by (simp -implicitDefEqProofs only [go_sem, h5] <;> first | done | rfl | trivial), hb _ rfl⟩
theorem M_ref01_Parts.l0.w : type_of% @M_ref01_Parts.l0.ws := @M_ref01_Parts.l0.ws
def M_ref01_Parts (x : Set64) : Option (List Set64) :=
  M_ref01_List x >>= fun r1 =>
  M_ref01_Parts.l0 (r1, ([] : List Set64), 1) >>= fun (o18 : List Set64) =>
  some o18
set_option maxHeartbeats 8000000 in
theorem M_ref01_Parts.w : ∀ (x : Set64) (r : List Set64), M_ref01_Parts x = some r → (fun (x : Set64) (r : List Set64) => Fn Tryd.prog 14 [.w x] (.slice .foreign (r.map AV.w))) x r := by
  intro x r h
  rw [M_ref01_Parts] at h
  try dsimp only
  refine Fn.of_lc mix fn_14 lok_14 (by rfl) (flC (.atom _) (flN)) (flat_slice _ (fun _ => .atom _) _) ?_
  simp -implicitDefEqProofs only [go_sem, Tryd.f14]
  obtain ⟨r1, h2, h⟩ := bind_some' h
  refine .plain _ _ rfl (M_ref01_List.w x _ h2) ?_
  try simp -implicitDefEqProofs only [go_sem]
  obtain ⟨o18, h19, h⟩ := bind_some' h
  refine LLoop.viewQ (LLoop.view [(100400, none)] (by (first | rfl | simp -implicitDefEqProofs only [go_sem] <;> rfl)) (M_ref01_Parts.l0.w (r1, ([] : List Set64), 1) _ h19 _ _ _ ?_))
  intro s' hs'; subst hs'
  try simp -implicitDefEqProofs only [go_sem]
  injection h with h; subst h
  first | rfl | simp -implicitDefEqProofs only [go_sem] <;> rfl
end Go.Proofs.YtdnnmopncndebaaDoor.G
set_option linter.unusedVariables false
set_option linter.unusedSimpArgs false
namespace Go.Proofs.YtdnnmopncndebaaDoor.G

theorem ref01_List_eq (s : Set64) : M_ref01_List s = some (memb s) := by
  unfold M_ref01_List
  have key := loop_inv (List.range 64) (fun i (acc : List Int) => acc.length ≤ i) (fun i acc => M_ref01_List.l0 (s, acc, (i : Int))) (fun acc l => some (acc ++ (l.filter fun j => s.getLsbD j).map fun (j : Nat) => (j : Int)))
    (fun acc _ => by
      show M_ref01_List.l0 _ = _
      rw [M_ref01_List.l0, if_neg (by simp)]
      simp)
    (fun i acc h hacc ih => by
      have hi : i < 64 := by simpa using h
      show M_ref01_List.l0 _ = _
      rw [M_ref01_List.l0, if_pos (by simp; omega)]
      dsimp only
      rw [ref01_Has_eq, hasI_nat _ _ hi, w64_succ (by omega), List.getElem_range]
      simp -implicitDefEqProofs only [Option.bind_eq_bind, Option.bind_some]
      by_cases hb : s.getLsbD i = true
      · rw [if_pos hb, room_of (by simp only [List.length_cons, List.length_nil]; omega)]
        simp -implicitDefEqProofs only [Option.bind_some]
        have := ih (acc ++ [(i : Int)]) (by rw [List.length_append]; simp only [List.length_cons, List.length_nil]; omega)
        rw [this, List.filter_cons_of_pos hb, List.map_cons, List.append_assoc]; rfl
      · rw [if_neg hb]
        have := ih acc (by omega)
        rw [this, List.filter_cons_of_neg hb]) 0 [] (by simp) (by simp)
  have key' : M_ref01_List.l0 (s, [], 0) = _ := key
  rw [key']
  simp -implicitDefEqProofs only [Option.bind_eq_bind, Option.bind_some]
  rw [List.drop_zero, List.nil_append]; rfl
theorem ref01_Count_memb (s : Set64) : M_ref01_Count s = some ((memb s).length : Int) := by
  unfold M_ref01_Count
  rw [ref01_List_eq]; rfl
theorem memb_mem (s : Set64) (n : Int) : n ∈ memb s ↔ hasI s n = true := by
  unfold memb hasI
  rw [List.mem_map]
  constructor
  · rintro ⟨k, hk, rfl⟩
    rw [List.mem_filter, List.mem_range] at hk
    simp [hk.1, hk.2]
    omega
  · intro h
    rw [Bool.and_eq_true, decide_eq_true_eq] at h
    exact ⟨n.toNat, List.mem_filter.2 ⟨List.mem_range.2 (by omega), h.2⟩, by omega⟩
theorem memb_sorted (s : Set64) : (memb s).Pairwise (· < ·) := by
  unfold memb
  rw [List.pairwise_map]
  exact (List.pairwise_lt_range.sublist List.filter_sublist).imp fun h => by omega
theorem memb_le (s : Set64) : (memb s).length ≤ 64 := by
  unfold memb
  rw [List.length_map]; exact Nat.le_trans (List.length_filter_le _ _) (by simp)
theorem hasI_range {s : Set64} {n : Int} (h : hasI s n = true) : 0 ≤ n ∧ n < 64 := by
  unfold hasI at h
  rw [Bool.and_eq_true, decide_eq_true_eq] at h
  exact h.1
theorem set_ext {a b : Set64} (h : ∀ n, hasI a n = hasI b n) : a = b := by
  apply BitVec.eq_of_getLsbD_eq
  intro i hi
  rw [← hasI_nat a i hi, ← hasI_nat b i hi, h]
theorem hasI_or' (a b : Set64) (n : Int) : hasI (a ||| b) n = (hasI a n || hasI b n) := by
  unfold hasI
  rw [BitVec.getLsbD_or]
  cases decide (0 ≤ n ∧ n < 64) <;> rfl
theorem hasI_and' (a b : Set64) (n : Int) : hasI (a &&& b) n = (hasI a n && hasI b n) := by
  unfold hasI
  rw [BitVec.getLsbD_and]
  cases decide (0 ≤ n ∧ n < 64) <;> cases a.getLsbD n.toNat <;> rfl
theorem hasI_cut (a b : Set64) (n : Int) : hasI (a &&& ~~~b) n = (hasI a n && !hasI b n) := by
  unfold hasI
  rw [BitVec.getLsbD_and, BitVec.getLsbD_not]
  by_cases h : 0 ≤ n ∧ n < 64
  · have h2 : n.toNat < 64 := by omega
    simp [h, h2]
  · simp [h]
theorem hasI_zero (n : Int) : hasI 0#64 n = false := by simp [hasI]
theorem hasI_bit (e n : Int) : hasI (bitI e) n = (decide (0 ≤ n ∧ n < 64) && decide (e = n)) := by
  unfold hasI
  rw [bitI_lsb]
  by_cases h : 0 ≤ n ∧ n < 64
  · have h2 : n.toNat < 64 := by omega
    have h3 : (n.toNat : Int) = n := by omega
    simp [h, h2, h3]
  · simp [h]
theorem inS_hasI (a b : Set64) : inS a b = true ↔ ∀ n, hasI a n = true → hasI b n = true := by
  rw [inS_iff]
  constructor
  · intro h n hn
    obtain ⟨h1, h2⟩ := hasI_range hn
    have e : n = (n.toNat : Int) := by omega
    rw [e, hasI_nat _ _ (by omega)] at hn ⊢
    exact h _ (by omega) hn
  · intro h j hj hb
    have := h (j : Int) (by rw [hasI_nat _ _ hj]; exact hb)
    rwa [hasI_nat _ _ hj] at this
theorem zero_iff (a : Set64) : a = 0#64 ↔ ∀ n, hasI a n = false := by
  constructor
  · rintro rfl n; exact hasI_zero n
  · intro h; exact set_ext fun n => by rw [h n, hasI_zero]

/-- All sets of some members, in rising order. -/
def subsA (l : List Int) : List Set64 := l.foldl (fun acc e => acc ++ acc.map (· ||| bitI e)) [0#64]
theorem subsA_snoc (l : List Int) (e : Int) : subsA (l ++ [e]) = subsA l ++ (subsA l).map (· ||| bitI e) := by
  unfold subsA; rw [List.foldl_append]; rfl
theorem snoc_ind {α : Type} {M : List α → Prop} (h0 : M []) (h1 : ∀ l e, M l → M (l ++ [e])) (l : List α) : M l := by
  have : ∀ n (l : List α), l.length = n → M l := by
    intro n
    induction n with
    | zero => intro l h; rw [List.length_eq_zero_iff.1 h]; exact h0
    | succ n ih =>
      intro l h
      have hne : l ≠ [] := by rintro rfl; cases h
      rw [← List.dropLast_concat_getLast hne]
      exact h1 _ _ (ih _ (by rw [List.length_dropLast]; omega))
  exact this _ l rfl
theorem subsA_len (l : List Int) : (subsA l).length = 2 ^ l.length := by
  induction l using snoc_ind with
  | h0 => rfl
  | h1 l e ih => rw [subsA_snoc, List.length_append, List.length_map, List.length_append, ih]; simp [Nat.pow_succ]; omega
theorem subsA_mem (l : List Int) (hl : ∀ e ∈ l, 0 ≤ e ∧ e < 64) (x : Set64) : x ∈ subsA l ↔ ∀ n, hasI x n = true → n ∈ l := by
  induction l using snoc_ind generalizing x with
  | h0 =>
    constructor
    · intro h n hn
      rw [show subsA [] = [0#64] from rfl, List.mem_singleton] at h
      subst h; rw [hasI_zero] at hn; cases hn
    · intro h
      rw [show subsA [] = [0#64] from rfl, List.mem_singleton]
      exact (zero_iff x).2 fun n => by
        cases hx : hasI x n with
        | false => rfl
        | true => cases h n hx
  | h1 l e ih =>
    have hl' : ∀ e ∈ l, 0 ≤ e ∧ e < 64 := fun e he => hl e (List.mem_append_left _ he)
    have he := hl e (by simp)
    rw [subsA_snoc, List.mem_append, List.mem_map, ih hl']
    constructor
    · rintro (h | ⟨y, hy, rfl⟩) n hn
      · exact List.mem_append_left _ (h n hn)
      · rw [hasI_or', Bool.or_eq_true] at hn
        rcases hn with hn | hn
        · exact List.mem_append_left _ ((ih hl' y).1 hy n hn)
        · rw [hasI_bit, Bool.and_eq_true, decide_eq_true_eq, decide_eq_true_eq] at hn
          rw [← hn.2]; simp
    · intro h
      by_cases hxe : hasI x e = true
      · right
        by_cases hel : e ∈ l
        · refine ⟨x, (ih hl' x).2 fun n hn => ?_, set_ext fun n => ?_⟩
          · rcases List.mem_append.1 (h n hn) with h1 | h1
            · exact h1
            · rw [List.mem_singleton.1 h1]; exact hel
          · rw [hasI_or', hasI_bit]
            by_cases hn : e = n
            · subst hn; simp [hxe]
            · simp [hn]
        · refine ⟨x &&& ~~~bitI e, (ih hl' _).2 fun n hn => ?_, set_ext fun n => ?_⟩
          · rw [hasI_cut, Bool.and_eq_true, hasI_bit] at hn
            rcases List.mem_append.1 (h n hn.1) with h1 | h1
            · exact h1
            · have h2 := List.mem_singleton.1 h1; subst h2
              simp [he] at hn
          · rw [hasI_or', hasI_cut, hasI_bit]
            by_cases hn : e = n
            · subst hn; simp [hxe, he]
            · simp [hn]
      · left
        intro n hn
        rcases List.mem_append.1 (h n hn) with h1 | h1
        · exact h1
        · rw [List.mem_singleton.1 h1] at hn; exact absurd hn hxe
/-- A set's parts. -/
def partsL (s : Set64) : List Set64 := (subsA (memb s)).tail
theorem bitI_nat {e : Int} (h : 0 ≤ e ∧ e < 64) : (bitI e).toNat = 2 ^ e.toNat := by
  unfold bitI
  rw [if_pos h, BitVec.toNat_shiftLeft]
  have : 2 ^ e.toNat < 2 ^ 64 := Nat.pow_lt_pow_right (by omega) (by omega)
  simp [Nat.shiftLeft_eq]
  omega
theorem or_bit {x : Set64} {e : Int} (h : 0 ≤ e ∧ e < 64) (hx : hasI x e = false) : x ||| bitI e = x + bitI e := by
  refine (BitVec.add_eq_or_of_and_eq_zero _ _ ?_).symm
  refine (zero_iff _).2 fun n => ?_
  rw [hasI_and', hasI_bit]
  by_cases hn : e = n
  · subst hn; simp [hx]
  · simp [hn]
theorem lt_of_bits {x : Set64} {k : Nat} (hk : k ≤ 64) (h : ∀ n, hasI x n = true → n < (k : Int)) : x.toNat < 2 ^ k := by
  apply Nat.lt_of_not_le
  intro hle
  have hxl := x.isLt
  by_cases h64 : k = 64
  · subst h64; omega
  obtain ⟨i, hi, hb⟩ := Nat.exists_ge_and_testBit_of_ge_two_pow hle
  have h1 : i < 64 := by
    apply Nat.lt_of_not_le
    intro h2
    rw [Nat.testBit_lt_two_pow (Nat.lt_of_lt_of_le hxl (Nat.pow_le_pow_right (by omega) h2))] at hb
    cases hb
  have := h (i : Int) (by rw [hasI_nat _ _ h1]; exact hb)
  omega
theorem subsA_lt (l : List Int) (hl : ∀ e ∈ l, 0 ≤ e ∧ e < 64) (hs : l.Pairwise (· < ·)) : (subsA l).Pairwise (fun a b => a.toNat < b.toNat) := by
  induction l using snoc_ind with
  | h0 => exact List.pairwise_singleton _ _
  | h1 l e ih =>
    have hl' : ∀ e ∈ l, 0 ≤ e ∧ e < 64 := fun e he => hl e (List.mem_append_left _ he)
    have he := hl e (by simp)
    obtain ⟨hs1, _, hs2⟩ := List.pairwise_append.1 hs
    have hlow : ∀ x ∈ subsA l, x.toNat < 2 ^ e.toNat := fun x hx => lt_of_bits (by omega) fun n hn => by
      have := hs2 n ((subsA_mem l hl' x).1 hx n hn) e (by simp)
      omega
    have hno : ∀ x ∈ subsA l, hasI x e = false := fun x hx => by
      cases hxe : hasI x e with
      | false => rfl
      | true => have := hs2 e ((subsA_mem l hl' x).1 hx e hxe) e (by simp); omega
    have hpow : 2 ^ e.toNat < 2 ^ 63 + 1 := by have := Nat.pow_le_pow_right (show 0 < 2 by omega) (show e.toNat ≤ 63 by omega); omega
    have hval : ∀ x ∈ subsA l, (x ||| bitI e).toNat = x.toNat + 2 ^ e.toNat := fun x hx => by
      rw [or_bit he (hno x hx), BitVec.toNat_add, bitI_nat he]
      have := hlow x hx
      omega
    rw [subsA_snoc]
    refine List.pairwise_append.2 ⟨ih hl' hs1, ?_, fun a ha b hb => ?_⟩
    · rw [List.pairwise_map]
      exact (ih hl' hs1).imp_of_mem fun {a b} ha hb h => by rw [hval a ha, hval b hb]; omega
    · obtain ⟨y, hy, rfl⟩ := List.mem_map.1 hb
      rw [hval y hy]
      have := hlow a ha
      omega
theorem memb_range (s : Set64) : ∀ e ∈ memb s, 0 ≤ e ∧ e < 64 := fun e he => hasI_range ((memb_mem s e).1 he)
theorem subsA_head (l : List Int) : ∃ t, subsA l = 0#64 :: t := by
  induction l using snoc_ind with
  | h0 => exact ⟨[], rfl⟩
  | h1 l e ih => obtain ⟨t, ht⟩ := ih; rw [subsA_snoc, ht]; exact ⟨_, rfl⟩
theorem partsL_mem (s x : Set64) : x ∈ partsL s ↔ x ≠ 0#64 ∧ inS x s = true := by
  have h1 := subsA_mem (memb s) (memb_range s) x
  have h2 := subsA_lt (memb s) (memb_range s) (memb_sorted s)
  obtain ⟨t, ht⟩ := subsA_head (memb s)
  unfold partsL
  rw [ht] at h1 h2 ⊢
  rw [List.tail_cons]
  rw [inS_hasI]
  have e : (∀ n, hasI x n = true → n ∈ memb s) ↔ ∀ n, hasI x n = true → hasI s n = true := ⟨fun h n hn => (memb_mem s n).1 (h n hn), fun h n hn => (memb_mem s n).2 (h n hn)⟩
  rw [← e, ← h1, List.mem_cons]
  constructor
  · intro hx
    refine ⟨?_, .inr hx⟩
    rintro rfl
    have := (List.pairwise_cons.1 h2).1 _ hx
    omega
  · rintro ⟨h3, h4 | h4⟩
    · exact absurd h4 h3
    · exact h4
theorem partsL_lt (s : Set64) : (partsL s).Pairwise (fun a b => a.toNat < b.toNat) := by
  have h2 := subsA_lt (memb s) (memb_range s) (memb_sorted s)
  obtain ⟨t, ht⟩ := subsA_head (memb s)
  unfold partsL
  rw [ht] at h2 ⊢
  exact (List.pairwise_cons.1 h2).2
theorem partsL_len (s : Set64) : (partsL s).length = 2 ^ (memb s).length - 1 := by
  unfold partsL
  rw [List.length_tail, subsA_len]
theorem parts_step (l : List Int) (hl : ∀ e ∈ l, 0 ≤ e ∧ e < 64) (hs : l.Pairwise (· < ·)) (k : Nat) (hk : k < l.length) (n : Nat) (p : Set64) (hp : (subsA (l.take k))[n % 2 ^ k]? = some p) :
    (subsA (l.take (k + 1)))[n % 2 ^ (k + 1)]? = some (if n.testBit k = true then p + BitVec.twoPow 64 l[k].toNat else p) ∧ hasI p l[k] = false := by
  have hlk : (l.take k).length = k := by rw [List.length_take]; omega
  have hlen : (subsA (l.take k)).length = 2 ^ k := by rw [subsA_len, hlk]
  have hpm : p ∈ subsA (l.take k) := List.mem_of_getElem? hp
  have hno : hasI p l[k] = false := by
    cases h : hasI p l[k] with
    | false => rfl
    | true =>
      have h1 := (subsA_mem (l.take k) (fun e he => hl e (List.mem_of_mem_take he)) p).1 hpm _ h
      rw [List.mem_take_iff_getElem] at h1
      obtain ⟨i, hi, he⟩ := h1
      have := List.pairwise_iff_getElem.1 hs i k (by omega) hk (by omega)
      omega
  refine ⟨?_, hno⟩
  have hr := hl _ (List.getElem_mem hk)
  rw [List.take_succ_eq_append_getElem hk, subsA_snoc]
  have hmod : n % 2 ^ (k + 1) = n % 2 ^ k + (if n.testBit k = true then 2 ^ k else 0) := by
    rw [Nat.mod_pow_succ, Nat.testBit_eq_decide_div_mod_eq]
    have : n / 2 ^ k % 2 < 2 := Nat.mod_lt _ (by omega)
    by_cases h : n / 2 ^ k % 2 = 1
    · simp [h]
    · have h0 : n / 2 ^ k % 2 = 0 := by omega
      simp [h0]
  have hlt : n % 2 ^ k < 2 ^ k := Nat.mod_lt _ (Nat.two_pow_pos k)
  rw [hmod]
  by_cases hb : n.testBit k = true
  · rw [if_pos hb, if_pos hb, List.getElem?_append_right (by omega), List.getElem?_map, hlen, Nat.add_sub_cancel, hp, Option.map_some, or_bit hr hno]
    congr 2
    apply BitVec.eq_of_toNat_eq
    rw [bitI_nat hr, BitVec.toNat_twoPow]
    have : 2 ^ l[k].toNat < 2 ^ 64 := Nat.pow_lt_pow_right (by omega) (by omega)
    exact (Nat.mod_eq_of_lt this).symm
  · rw [if_neg hb, if_neg hb, Nat.add_zero, List.getElem?_append_left (by omega)]; exact hp
theorem power_eq' (e : Int) (h : 0 ≤ e ∧ e < 64) : M_ref01_power e = some (BitVec.twoPow 64 e.toNat) := by
  have := power_eq e.toNat (by omega)
  rwa [Int.toNat_of_nonneg h.1] at this
theorem ref01_Parts_eq (s : Set64) (hc : (memb s).length ≤ 20) : M_ref01_Parts s = some (partsL s) := by
  have hl := memb_range s
  have hs := memb_sorted s
  generalize hm : memb s = l at hl hs hc
  have hpw : 2 ^ l.length ≤ 2 ^ 20 := Nat.pow_le_pow_right (by omega) hc
  have l1 : ∀ (out : List Set64) (n : Nat), n < 2 ^ l.length → ∀ d k p, l.length - k = d → k ≤ l.length → (subsA (l.take k))[n % 2 ^ k]? = some p → ∃ q, M_ref01_Parts.l1 (l, out, (n : Int), p, (k : Int)) = some q ∧ (subsA l)[n]? = some q := by
    intro out n hn d
    induction d with
    | zero =>
      intro k p h1 h2 h3
      have hk : k = l.length := by omega
      subst hk
      rw [M_ref01_Parts.l1, if_neg (dge (by dsimp only; omega))]
      refine ⟨p, rfl, ?_⟩
      rw [List.take_length, Nat.mod_eq_of_lt hn] at h3; exact h3
    | succ d ih =>
      intro k p h1 h2 h3
      have hk : k < l.length := by omega
      obtain ⟨h4, h5⟩ := parts_step l hl hs k hk n p h3
      rw [M_ref01_Parts.l1, if_pos (dlt (by dsimp only; omega))]
      dsimp only
      have hbit : hasI (BitVec.ofInt 64 (n : Int)) (k : Int) = n.testBit k := by
        rw [hasI_nat _ _ (by omega), BitVec.ofInt_natCast, BitVec.getLsbD_ofNat]
        simp; omega
      rw [ref01_Has_eq, hbit, w64_succ (by omega)]
      simp -implicitDefEqProofs only [Option.bind_eq_bind, Option.bind_some]
      by_cases hb : n.testBit k = true
      · rw [if_pos hb, getI_nat hk]
        simp -implicitDefEqProofs only [Option.bind_some]
        rw [power_eq' _ (hl _ (List.getElem_mem hk))]
        simp -implicitDefEqProofs only [Option.bind_some]
        rw [if_pos hb] at h4
        exact ih (k + 1) _ (by omega) (by omega) h4
      · rw [if_neg hb]
        rw [if_neg hb] at h4
        exact ih (k + 1) _ (by omega) (by omega) h4
  have hlen := subsA_len l
  obtain ⟨t, ht⟩ := subsA_head l
  have l0 : ∀ d n (out : List Set64), 2 ^ l.length - n = d → 1 ≤ n → n ≤ 2 ^ l.length → out = (subsA l).tail.take (n - 1) → M_ref01_Parts.l0 (l, out, (n : Int)) = some (subsA l).tail := by
    intro d
    induction d with
    | zero =>
      intro n out h1 h2 h3 h4
      rw [M_ref01_Parts.l0]
      dsimp only
      rw [power_eq _ (by omega)]
      simp -implicitDefEqProofs only [Option.bind_eq_bind, Option.bind_some]
      have hpt : (BitVec.twoPow 64 l.length).toNat = 2 ^ l.length := by
        rw [BitVec.toNat_twoPow]; omega
      rw [hpt, w64_of (by omega) (by omega), if_neg (dge (by omega))]
      rw [h4, List.take_of_length_le (by rw [List.length_tail, hlen]; omega)]
    | succ d ih =>
      intro n out h1 h2 h3 h4
      rw [M_ref01_Parts.l0]
      dsimp only
      rw [power_eq _ (by omega)]
      simp -implicitDefEqProofs only [Option.bind_eq_bind, Option.bind_some]
      have hpt : (BitVec.twoPow 64 l.length).toNat = 2 ^ l.length := by
        rw [BitVec.toNat_twoPow]; omega
      rw [hpt, w64_of (by omega) (by omega), if_pos (dlt (by omega))]
      obtain ⟨q, hq, hq2⟩ := l1 out n (by omega) l.length 0 0#64 (by omega) (by omega) (by simp [subsA, Nat.mod_one])
      rw [show ((0 : Nat) : Int) = 0 from rfl] at hq
      rw [hq]
      simp -implicitDefEqProofs only [Option.bind_some]
      have hol : out.length ≤ n := by rw [h4, List.length_take]; omega
      rw [room_of (by simp only [List.length_cons, List.length_nil]; omega), w64_succ (by omega)]
      simp -implicitDefEqProofs only [Option.bind_some]
      refine ih (n + 1) _ (by omega) (by omega) (by omega) ?_
      rw [h4]
      have hq3 : (subsA l).tail[n - 1]? = some q := by
        rw [List.getElem?_tail, show n - 1 + 1 = n by omega]; exact hq2
      rw [show n + 1 - 1 = (n - 1) + 1 by omega, List.take_add_one, hq3]; rfl
  unfold M_ref01_Parts partsL
  rw [ref01_List_eq, hm]
  simp -implicitDefEqProofs only [Option.bind_eq_bind, Option.bind_some]
  have := l0 _ 1 [] rfl (by omega) (Nat.one_le_two_pow) (by simp)
  rw [show ((1 : Nat) : Int) = 1 from rfl] at this
  rw [this]; rfl
end Go.Proofs.YtdnnmopncndebaaDoor.G
set_option linter.unusedVariables false
set_option linter.unusedSimpArgs false
set_option maxRecDepth 100000
namespace Go.Proofs.YtdnnmopncndebaaDoor.G
def tabI : List Int := (tabs.headD (0, [])).2.map fun v => match v with
  | .int _ n => n
  | _ => 0
@[irreducible] def tzAt (x : Set64) : Nat := (((x &&& -x) * 285870213051353865#64) >>> (58#64).toNat).toNat
@[irreducible] def tzI (x : Set64) : Int := w64 (tabI.getD (tzAt x) 0)
def M_math_bits_TrailingZeros64 (x : Set64) : Option Int := if (x == 0#64) = true then some 64 else some (tzI x)
end Go.Proofs.YtdnnmopncndebaaDoor.G
set_option linter.unusedVariables false
set_option linter.unusedSimpArgs false
set_option maxRecDepth 100000
namespace Go.Proofs.YtdnnmopncndebaaDoor.G
theorem lok_16 : (Tryd.f16.body.isSome && !(Tryd.f16.name == "runtime.NumGoroutine") && okL (bodyF Tryd.f16) Tryd.f16.ntmps (bodyF Tryd.f16)) = true := by kernel_rfl
def M_sets_In (x : Set64 × Set64) : Option (Bool) :=
  some ((x.1 &&& ~~~x.2) == 0#64)
set_option maxHeartbeats 8000000 in
theorem M_sets_In.w : ∀ (x : Set64 × Set64) (r : Bool), M_sets_In x = some r → (fun (x : Set64 × Set64) (r : Bool) => Fn Tryd.prog 16 [.w x.1, .w x.2] (.bool r)) x r := by
  intro x r h
  rw [M_sets_In] at h
  try dsimp only
  refine Fn.of_lc mix fn_16 lok_16 (by rfl) (flC (.atom _) (flC (.atom _) (flN))) (.atom _) ?_
  simp -implicitDefEqProofs only [go_sem, Tryd.f16]
  injection h with h; subst h
  first | rfl | simp -implicitDefEqProofs only [go_sem] <;> rfl
end Go.Proofs.YtdnnmopncndebaaDoor.G
set_option linter.unusedVariables false
set_option linter.unusedSimpArgs false
set_option maxRecDepth 100000
namespace Go.Proofs.YtdnnmopncndebaaDoor.G
def M_sets_Min (x : Set64) : Option (Int) :=
  if (x == 0#64) = true then
    some (-1)
  else
    M_math_bits_TrailingZeros64 x >>= fun r2 =>
    some r2
end Go.Proofs.YtdnnmopncndebaaDoor.G
set_option linter.unusedVariables false
set_option linter.unusedSimpArgs false
set_option maxRecDepth 100000
namespace Go.Proofs.YtdnnmopncndebaaDoor.G

/-- Both ways of each edge. -/
def leadL (l : List T_api_Edge) : List (Set64 × Set64) := l.flatMap fun e => [(e.Left, e.Right), (e.Right, e.Left)]
theorem leadL_len (l : List T_api_Edge) : (leadL l).length = 2 * l.length := by
  induction l with
  | nil => rfl
  | cons x l ih => simp only [leadL, List.flatMap_cons, List.length_append, List.length_cons, List.length_nil] at ih ⊢; omega
theorem leadL_get (l : List T_api_Edge) (j : Nat) (h : j < l.length) : (leadL l)[2 * j]? = some (l[j].Left, l[j].Right) ∧ (leadL l)[2 * j + 1]? = some (l[j].Right, l[j].Left) := by
  induction l generalizing j with
  | nil => cases h
  | cons x l ih =>
    cases j with
    | zero => exact ⟨rfl, rfl⟩
    | succ j =>
      obtain ⟨h1, h2⟩ := ih j (by simpa using h)
      exact ⟨by simpa [leadL, Nat.mul_add] using h1, by simpa [leadL, Nat.mul_add] using h2⟩
def leadAV (p : Set64 × Set64) : List AV := [.w p.1, .w p.2]
theorem leads_iter (es : List T_api_Edge) (hes : es.length < 4611686018427387904) (l : Nat) : Iter Tryd.prog 27 [] [.ptr l 0] (fun m => m.boxes[l]? = some (.cells [.slice .foreign (es.map T_api_Edge.av)])) ((leadL es).map leadAV) := by
  intro b yv I D m hy hb hC hI hD h0 hY
  obtain ⟨B, R, μ⟩ := m
  dsimp only at hb
  have hbl := hC 0 _ h0
  dsimp only at hbl
  show Does Tryd.prog 27 [yv, .ptr l 0] _ _
  refine Does.of_slim mix fn_27 ok_27 (by rfl) ?_; simp -implicitDefEqProofs only [go_sem, Tryd.f27]
  simp -implicitDefEqProofs only [go_sem, hbl]
  refine SLoop.induct mix fn_27 (by kernel_rfl) (fun n e m' => ∃ (j : Nat), e = [(0, yv), (1, .ptr l 0), (5, .slice .foreign (es.map T_api_Edge.av)), (6, .i64 es.length), (7, .i64 j)] ∧ KeepB b ⟨B, R, μ⟩ m' ∧ I (2 * j) m' ∧ j ≤ es.length ∧ n = es.length - j) es.length ⟨0, rfl, KeepB.refl _ _, h0, by omega, by omega⟩ (by simp -implicitDefEqProofs only [go_sem] <;> repeat' (first | rfl | apply And.intro)) ?_
  rintro n e m' ⟨j, rfl, hk, hi, hj, hn⟩ ih2
  obtain ⟨B', R', μ'⟩ := m'
  have b0 : b ≤ B'.length := Nat.le_trans hb hk.2.1
  simp -implicitDefEqProofs only [go_sem, Tryd.f27]
  refine SCond_dec (fun hc => ?_) fun hc => ?_
  · have hj' : j < es.length := by omega
    simp -implicitDefEqProofs only [go_sem, getL hj']
    obtain ⟨g1, g2⟩ := leadL_get es j hj'
    refine (hY (2 * j) _ _ (by rw [List.getElem?_map, g1]; rfl) (hk.trans ((Ext.mkB B' _ R' μ').keepB b)) (hI _ _ _ hi (Ext.mkB B' _ R' μ'))).mono ?_
    rintro r ⟨B2, R2, μ2⟩ ⟨hk2, hcase⟩
    refine ⟨False.elim, ?_⟩
    have hk3 := (hk.trans ((Ext.mkB B' [.cells es[j].C] R' μ').keepB b)).trans hk2
    have b3 := hk2.1 B'.length _ b0 (by simp; rfl)
    dsimp only at b3
    rcases hcase with ⟨rfl, hi2⟩ | ⟨rfl, hd2⟩
    · simp -implicitDefEqProofs only [go_sem, b3]
      refine (hY (2 * j + 1) _ _ (by rw [List.getElem?_map, g2]; rfl) hk3 hi2).mono ?_
      rintro r m3 ⟨hk4, hcase⟩
      refine ⟨False.elim, ?_⟩
      rcases hcase with ⟨rfl, hi3⟩ | ⟨rfl, hd3⟩
      · simp -implicitDefEqProofs only [go_sem, inc64 j (by omega)]
        exact ih2 (es.length - (j + 1)) _ _ _ (by omega) ⟨j + 1, rfl, hk3.trans hk4, by rw [show 2 * (j + 1) = 2 * j + 1 + 1 by omega]; exact hi3, by omega, rfl⟩ (by simp -implicitDefEqProofs only [go_sem] <;> repeat' (first | rfl | apply And.intro))
      · simp -implicitDefEqProofs only [go_sem]
        exact ⟨hk3.trans hk4, .inr hd3⟩
    · simp -implicitDefEqProofs only [go_sem]
      exact ⟨hk3, .inr hd2⟩
  · have hjj : j = es.length := by omega
    subst hjj
    simp -implicitDefEqProofs only [go_sem]
    exact ⟨hk, .inl (by rw [leadL_len]; exact hi)⟩
theorem graph_leads (es : List T_api_Edge) (B : List ABox) (R : List (Option (Nat × List AV))) (μ : TypeId → Bool) : Does Tryd.prog 15 [.slice .foreign (es.map T_api_Edge.av)] ⟨B, R, μ⟩ fun r m1 => r = .func 27 [] [.ptr B.length 0] ∧ m1 = ⟨B ++ [.cells [.slice .foreign (es.map T_api_Edge.av)]], R, μ⟩ := by
  refine Does.of_slim mix fn_15 ok_15 (by rfl) ?_; simp -implicitDefEqProofs only [go_sem, Tryd.f15]
def M_graph_leads (l : List T_api_Edge) : Option (List (Set64 × Set64)) := if l.length < 4611686018427387904 then some (leadL l) else none
theorem M_graph_leads.w : ∀ (x : List T_api_Edge) (r : List (Set64 × Set64)), M_graph_leads x = some r → FnI Tryd.prog 15 [.slice .foreign (x.map T_api_Edge.av)] (r.map fun y => [.w y.1, .w y.2]) := by
  intro es r h m
  unfold M_graph_leads at h
  split at h
  · rename_i hs
    injection h with h
    subst h
    obtain ⟨B, R, μ⟩ := m
    obtain ⟨r, m', h1, rfl, rfl⟩ := graph_leads es B R μ
    refine ⟨_, _, _, _, [(B.length, .cells [.slice .foreign (es.map T_api_Edge.av)])], h1, ⟨⟨[.cells [.slice .foreign (es.map T_api_Edge.av)]], rfl⟩, ⟨[], by simp⟩, rfl⟩, ?_, ?_, ?_⟩
    · intro q hq
      rcases List.mem_cons.1 hq with rfl | hq
      · simp
      · cases hq
    · intro b yv I D m hy hb hC hI hD h0 hY
      exact leads_iter es hs B.length b yv I D m hy hb (fun i m h => hC i m h (B.length, .cells [.slice .foreign (es.map T_api_Edge.av)]) (List.mem_cons_self)) hI hD h0 hY
    · intro q hq
      rcases List.mem_cons.1 hq with rfl | hq
      · exact Nat.le_refl _
      · cases hq
  · cases h
end Go.Proofs.YtdnnmopncndebaaDoor.G
set_option linter.unusedVariables false
set_option linter.unusedSimpArgs false
set_option maxRecDepth 100000
namespace Go.Proofs.YtdnnmopncndebaaDoor.G
def M_graph_Near.r0 (x : (List (Set64 × Set64)) × Set64 × Set64 × Set64) : Option (Set64) :=
  match x.1 with
  | [] => some x.2.2.2
  | e3 :: l4 =>
    if (e3.1 != 0#64) = true then
      if (e3.2 != 0#64) = true then
        M_sets_In (e3.1, x.2.1) >>= fun r7 =>
        if r7 = true then
          if ((e3.2 &&& (x.2.1 ||| x.2.2.1)) == 0#64) = true then
            M_sets_Min e3.2 >>= fun r11 =>
            M_sets_Of ([r11]) >>= fun r13 =>
            M_graph_Near.r0 (l4, x.2.1, x.2.2.1, (x.2.2.2 ||| r13))
          else
            M_graph_Near.r0 (l4, x.2.1, x.2.2.1, x.2.2.2)
        else
          M_graph_Near.r0 (l4, x.2.1, x.2.2.1, x.2.2.2)
      else
        M_graph_Near.r0 (l4, x.2.1, x.2.2.1, x.2.2.2)
    else
      M_graph_Near.r0 (l4, x.2.1, x.2.2.1, x.2.2.2)
  partial_fixpoint
def M_graph_Near (x : List T_api_Edge × Set64 × Set64) : Option (Set64) :=
  M_graph_leads x.1 >>= fun l1 =>
  M_graph_Near.r0 (l1, x.2.1, x.2.2, 0#64) >>= fun (s17 : Set64) =>
  some s17
end Go.Proofs.YtdnnmopncndebaaDoor.G
set_option linter.unusedVariables false
set_option linter.unusedSimpArgs false
set_option maxRecDepth 100000
namespace Go.Proofs.YtdnnmopncndebaaDoor.G
theorem lok_6 : (Tryd.f6.body.isSome && !(Tryd.f6.name == "runtime.NumGoroutine") && okL (bodyF Tryd.f6) Tryd.f6.ntmps (bodyF Tryd.f6)) = true := by kernel_rfl
def M_graph_Linked.r0 (x : (List (Set64 × Set64)) × Set64 × Set64 × Bool) : Option (Lp (Bool) (Bool)) :=
  match x.1 with
  | [] => some (.brk x.2.2.2)
  | e3 :: l4 =>
    M_sets_In (e3.1, x.2.1) >>= fun r5 =>
    if r5 = true then
      M_sets_In (e3.2, x.2.2.1) >>= fun r8 =>
      if r8 = true then
        some (.ret true)
      else
        M_graph_Linked.r0 (l4, x.2.1, x.2.2.1, x.2.2.2)
    else
      M_graph_Linked.r0 (l4, x.2.1, x.2.2.1, x.2.2.2)
  partial_fixpoint
theorem M_graph_Linked.r0.ws : (∀ (x : (List (Set64 × Set64)) × Set64 × Set64 × Bool) (o : Lp (Bool) (Bool)), M_graph_Linked.r0 x = some o → (fun (x : (List (Set64 × Set64)) × Set64 × Set64 × Bool) (o : Lp (Bool) (Bool)) => ∀ (Fin : Exit → List (Nat × List CV) → Prop) (hb : ∀ (s : Bool), o = Lp.brk s → Fin .normal [(2100004, [.v (.w x.2.1)]), (2100005, [.v (.w x.2.2.1)]), (2100006, [.v (.bool s)])]) (hr : ∀ (s : Bool), o = Lp.ret s → Fin .ret [(2100004, [.v (.w x.2.1)]), (2100005, [.v (.w x.2.2.1)]), (2100006, [.v (.bool s)])]), RRun Tryd.prog 6 Tryd.f6 0 1 #[11, 12] [(4, .lref 2100004 0), (5, .lref 2100005 0), (6, .lref 2100006 0)] Fin (x.1.map (fun (y : Set64 × Set64) => [.w y.1, .w y.2])) [(2100004, [.v (.w x.2.1)]), (2100005, [.v (.w x.2.2.1)]), (2100006, [.v (.bool x.2.2.2)])]) x o) := by
  refine M_graph_Linked.r0.partial_correctness _ ?_
  · intro M_M_graph_Linked_r0 ih_M_graph_Linked_r0 x o h
    intro Fin hb hr
    generalize hx1 : x.1 = ys at h ⊢
    cases ys with
    | nil => injection h with h; subst h; exact RRun.nil (hb _ rfl)
    | cons e3 l4 =>
      refine RRun.cons rfl fun l0 c1 hlo1 => ?_
      dsimp only at h
      simp -implicitDefEqProofs only [go_sem, Tryd.f6]
      refine RMid.mk (by rfl) fun c2 hlo2 => ?_
      simp -implicitDefEqProofs only [go_sem, Tryd.f6]
      obtain ⟨r5, h6, h⟩ := bind_some' h
      refine .plain _ _ rfl (M_sets_In.w (e3.1, x.2.1) _ h6) ?_
      try simp -implicitDefEqProofs only [go_sem]
      by_cases h7 : r5 = true
      · replace h := ite_some h h7
        try simp -implicitDefEqProofs only [go_sem, h7]
        obtain ⟨r8, h9, h⟩ := bind_some' h
        refine .plain _ _ rfl (M_sets_In.w (e3.2, x.2.2.1) _ h9) ?_
        try simp -implicitDefEqProofs only [go_sem, h7]
        by_cases h10 : r8 = true
        · replace h := ite_some h h10
          try simp -implicitDefEqProofs only [go_sem, h7, h10]
          injection h with h; subst h
          exact REnd.ret [] (by rfl) (by (first | rfl | simp -implicitDefEqProofs only [go_sem, h7, h10] <;> rfl)) (by rfl) (hr _ rfl)
        · replace h := ite_none h h10; replace h10 := bfalse h10
          try simp -implicitDefEqProofs only [go_sem, h7, h10]
          exact REnd.next [] (by rfl) (by (first | rfl | simp -implicitDefEqProofs only [go_sem, h7, h10] <;> rfl)) (by rfl) (ih_M_graph_Linked_r0 (l4, x.2.1, x.2.2.1, x.2.2.2) _ h Fin hb hr)
      · replace h := ite_none h h7; replace h7 := bfalse h7
        try simp -implicitDefEqProofs only [go_sem, h7]
        exact REnd.next [] (by rfl) (by (first | rfl | simp -implicitDefEqProofs only [go_sem, h7] <;> rfl)) (by rfl) (ih_M_graph_Linked_r0 (l4, x.2.1, x.2.2.1, x.2.2.2) _ h Fin hb hr)
theorem M_graph_Linked.r0.w : type_of% @M_graph_Linked.r0.ws := @M_graph_Linked.r0.ws
def M_graph_Linked (x : List T_api_Edge × Set64 × Set64) : Option (Bool) :=
  M_graph_leads x.1 >>= fun l1 =>
  M_graph_Linked.r0 (l1, x.2.1, x.2.2, false) >>= fun (o11 : Lp (Bool) (Bool)) => match o11 with
  | .brk s13 =>
    some false
  | .ret s14 =>
    some s14
set_option maxHeartbeats 8000000 in
theorem M_graph_Linked.w : ∀ (x : List T_api_Edge × Set64 × Set64) (r : Bool), M_graph_Linked x = some r → (fun (x : List T_api_Edge × Set64 × Set64) (r : Bool) => Fn Tryd.prog 6 [.slice .foreign (x.1.map T_api_Edge.av), .w x.2.1, .w x.2.2] (.bool r)) x r := by
  intro x r h
  rw [M_graph_Linked] at h
  try dsimp only
  refine Fn.of_lc mix fn_6 lok_6 (by rfl) (flC (flat_slice _ T_api_Edge.flat _) (flC (.atom _) (flC (.atom _) (flN)))) (.atom _) ?_
  simp -implicitDefEqProofs only [go_sem, Tryd.f6]
  obtain ⟨l1, h2, h⟩ := bind_some' h
  refine .iter _ _ rfl (M_graph_leads.w x.1 _ h2) ?_
  try simp -implicitDefEqProofs only [go_sem]
  obtain ⟨o11, h12, h⟩ := bind_some' h
  refine LRange.iter mix fn_6 (LoOk.none _) (by kernel_rfl) (by kernel_rfl) (by rfl) rfl [] [(2100004, 4), (2100005, 5), (2100006, 6)] (by rfl) (by rfl) (by (first | rfl | simp -implicitDefEqProofs only [go_sem] <;> rfl)) (by (first | rfl | simp -implicitDefEqProofs only [go_sem] <;> rfl)) (M_graph_Linked.r0.w (l1, x.2.1, x.2.2, false) _ h12 _ ?_ ?_)
  · intro s13 hs'; subst hs'
    try simp -implicitDefEqProofs only [go_sem]
    injection h with h; subst h
    first | rfl | simp -implicitDefEqProofs only [go_sem] <;> rfl
  · intro s14 hs'; subst hs'
    try simp -implicitDefEqProofs only [go_sem]
    injection h with h; subst h
    first | rfl | simp -implicitDefEqProofs only [go_sem] <;> rfl
end Go.Proofs.YtdnnmopncndebaaDoor.G
set_option linter.unusedVariables false
set_option linter.unusedSimpArgs false
set_option maxRecDepth 100000
namespace Go.Proofs.YtdnnmopncndebaaDoor.G
theorem lok_22 : (Tryd.f22.body.isSome && !(Tryd.f22.name == "runtime.NumGoroutine") && okL (bodyF Tryd.f22) Tryd.f22.ntmps (bodyF Tryd.f22)) = true := by kernel_rfl
def M_graph_full.l0 (x : List T_api_Edge × List T_api_Edge × Int × Int) : Option (List T_api_Edge) :=
  if (decide (x.2.2.2 < x.2.2.1)) = true then
    (getI x.2.1 x.2.2.2) >>= fun (e2 : T_api_Edge) =>
    if (e2.Left != 0#64) = true then
      if (e2.Right != 0#64) = true then
        (room 56 x.1 ([e2])) >>= fun (z6 : List T_api_Edge) =>
        M_graph_full.l0 (z6, x.2.1, x.2.2.1, (w64 (x.2.2.2 + 1)))
      else
        M_graph_full.l0 (x.1, x.2.1, x.2.2.1, (w64 (x.2.2.2 + 1)))
    else
      M_graph_full.l0 (x.1, x.2.1, x.2.2.1, (w64 (x.2.2.2 + 1)))
  else
    some x.1
  partial_fixpoint
theorem M_graph_full.l0.ws : (∀ (x : List T_api_Edge × List T_api_Edge × Int × Int) (o : List T_api_Edge), M_graph_full.l0 x = some o → (fun (x : List T_api_Edge × List T_api_Edge × Int × Int) (o : List T_api_Edge) => ∀ (lo : Option Nat) (c : LCtx) (Q : Exit → LEnv → Prop) (hb : ∀ s : List T_api_Edge, o = s → Q (.exit 0) ⟨[(3, .own 100300 5 (s.map T_api_Edge.av))], []⟩), LLoop Tryd.prog 22 lo c 0 (VQ Q) ⟨[(3, .own 100300 5 (x.1.map T_api_Edge.av)), (6, .v (.slice .foreign (x.2.1.map T_api_Edge.av))), (7, .v (.i64 x.2.2.1)), (8, .v (.i64 x.2.2.2))], []⟩) x o) := by
  refine M_graph_full.l0.partial_correctness _ ?_
  · intro M_M_graph_full_l0 ih_M_graph_full_l0 x o h
    intro lo c Q hb
    refine LLoop.step mix fn_22 (by kernel_rfl) ?_
    simp -implicitDefEqProofs only [go_sem, Tryd.f22]
    by_cases h1 : (decide (x.2.2.2 < x.2.2.1)) = true
    · replace h := ite_some h h1
      try simp -implicitDefEqProofs only [go_sem, h1]
      obtain ⟨e2, h3, h⟩ := bind_some' h; replace h3 := getI_some h3; obtain ⟨h3', h3⟩ := h3
      try simp -implicitDefEqProofs only [go_sem, h1, h3, h3']
      by_cases h4 : (e2.Left != 0#64) = true
      · replace h := ite_some h h4
        try simp -implicitDefEqProofs only [go_sem, h1, h3, h3', h4]
        by_cases h5 : (e2.Right != 0#64) = true
        · replace h := ite_some h h5
          try simp -implicitDefEqProofs only [go_sem, h1, h3, h3', h4, h5]
          obtain ⟨z6, h7, h⟩ := bind_some' h; replace h7 := room_some h7; obtain ⟨h7', rfl⟩ := h7
          refine LApp.map (F := T_api_Edge.av) (xs := x.1) (ys := [e2]) t22_elem t34_size t34_bytes t34_zsize rfl T_api_Edge.len (by (first | rfl | simp -implicitDefEqProofs only [go_sem, h1, h3, h3', h4, h5] <;> rfl)) (by (first | rfl | simp -implicitDefEqProofs only [go_sem, h1, h3, h3', h4, h5] <;> rfl)) h7' ?_
          try simp -implicitDefEqProofs only [go_sem, h1, h3, h3', h4, h5]
          exact LLoop.view [(100300, some 23)] (by (first | rfl | simp -implicitDefEqProofs only [go_sem, h1, h3, h3', h4, h5] <;> rfl)) (ih_M_graph_full_l0 _ _ h lo c Q hb)
        · replace h := ite_none h h5; replace h5 := bfalse h5
          try simp -implicitDefEqProofs only [go_sem, h1, h3, h3', h4, h5]
          exact LLoop.view [(100300, some 100300)] (by (first | rfl | simp -implicitDefEqProofs only [go_sem, h1, h3, h3', h4, h5] <;> rfl)) (ih_M_graph_full_l0 _ _ h lo c Q hb)
      · replace h := ite_none h h4; replace h4 := bfalse h4
        try simp -implicitDefEqProofs only [go_sem, h1, h3, h3', h4]
        exact LLoop.view [(100300, some 100300)] (by (first | rfl | simp -implicitDefEqProofs only [go_sem, h1, h3, h3', h4] <;> rfl)) (ih_M_graph_full_l0 _ _ h lo c Q hb)
    · replace h := ite_none h h1; replace h1 := bfalse h1
      try simp -implicitDefEqProofs only [go_sem, h1]
      injection h with h; subst h
      exact .inr ⟨[(100300, some 100300)], _, by (simp -implicitDefEqProofs only [go_sem, h1] <;> first | done | rfl | trivial), hb _ rfl⟩
theorem M_graph_full.l0.w : type_of% @M_graph_full.l0.ws := @M_graph_full.l0.ws
def M_graph_full (x : List T_api_Edge) : Option (List T_api_Edge) :=
  M_graph_full.l0 (([] : List T_api_Edge), x, (x.length : Int), 0) >>= fun (o8 : List T_api_Edge) =>
  some o8
set_option maxHeartbeats 8000000 in
theorem M_graph_full.w : ∀ (x : List T_api_Edge) (r : List T_api_Edge), M_graph_full x = some r → (fun (x : List T_api_Edge) (r : List T_api_Edge) => Fn Tryd.prog 22 [.slice .foreign (x.map T_api_Edge.av)] (.slice .foreign (r.map T_api_Edge.av))) x r := by
  intro x r h
  rw [M_graph_full] at h
  try dsimp only
  refine Fn.of_lc mix fn_22 lok_22 (by rfl) (flC (flat_slice _ T_api_Edge.flat _) (flN)) (flat_slice _ T_api_Edge.flat _) ?_
  simp -implicitDefEqProofs only [go_sem, Tryd.f22]
  obtain ⟨o8, h9, h⟩ := bind_some' h
  refine LLoop.viewQ (LLoop.view [(100300, none)] (by (first | rfl | simp -implicitDefEqProofs only [go_sem] <;> rfl)) (M_graph_full.l0.w (([] : List T_api_Edge), x, (x.length : Int), 0) _ h9 _ _ _ ?_))
  intro s' hs'; subst hs'
  try simp -implicitDefEqProofs only [go_sem]
  injection h with h; subst h
  first | rfl | simp -implicitDefEqProofs only [go_sem] <;> rfl
end Go.Proofs.YtdnnmopncndebaaDoor.G
set_option linter.unusedVariables false
set_option linter.unusedSimpArgs false
set_option maxRecDepth 100000
namespace Go.Proofs.YtdnnmopncndebaaDoor.G
@[go_sem] theorem lrp_11_15 : lrp Tryd.prog 11 15 = (10, []) := by kernel_rfl
@[go_sem] theorem lrp_11_16 : lrp Tryd.prog 11 16 = (10, []) := by kernel_rfl
@[go_sem] theorem lrp_11_17 : lrp Tryd.prog 11 17 = (7, []) := by kernel_rfl
theorem lok_11 : (Tryd.f11.body.isSome && !(Tryd.f11.name == "runtime.NumGoroutine") && okL (bodyF Tryd.f11) Tryd.f11.ntmps (bodyF Tryd.f11)) = true := by kernel_rfl
section
attribute [local instance] mu_23
def M_graph_Connected.l0 (x : List T_api_Edge × List Set64 × List Int × Int × Int) : Option (List Set64) :=
  if (decide (x.2.2.2.2 < x.2.2.2.1)) = true then
    (getI x.2.2.1 x.2.2.2.2) >>= fun (e6 : Int) =>
    M_sets_Of ([e6]) >>= fun r8 =>
    (room 8 x.2.1 ([r8])) >>= fun (z10 : List Set64) =>
    M_graph_Connected.l0 (x.1, z10, x.2.2.1, x.2.2.2.1, (w64 (x.2.2.2.2 + 1)))
  else
    some x.2.1
  partial_fixpoint
theorem M_graph_Connected.l0.ws : (∀ (x : List T_api_Edge × List Set64 × List Int × Int × Int) (o : List Set64), M_graph_Connected.l0 x = some o → (fun (x : List T_api_Edge × List Set64 × List Int × Int × Int) (o : List Set64) => ∀ (lo : Option Nat) (c : LCtx) (Q : Exit → LEnv → Prop) (hb : ∀ s : List Set64, o = s → Q (.exit 0) ⟨[(0, .v (.slice .foreign (x.1.map T_api_Edge.av))), (5, .own 50100500 1 (s.map AV.w))], []⟩), LLoop Tryd.prog 11 lo c 0 (VQ Q) ⟨[(0, .v (.slice .foreign (x.1.map T_api_Edge.av))), (5, .own 50100500 1 (x.2.1.map AV.w)), (13, .v (.slice .foreign (x.2.2.1.map AV.i64))), (14, .v (.i64 x.2.2.2.1)), (15, .v (.i64 x.2.2.2.2))], []⟩) x o) := by
  refine M_graph_Connected.l0.partial_correctness _ ?_
  · intro M_M_graph_Connected_l0 ih_M_graph_Connected_l0 x o h
    intro lo c Q hb
    refine LLoop.step mix fn_11 (by kernel_rfl) ?_
    simp -implicitDefEqProofs only [go_sem, Tryd.f11]
    by_cases h5 : (decide (x.2.2.2.2 < x.2.2.2.1)) = true
    · replace h := ite_some h h5
      try simp -implicitDefEqProofs only [go_sem, h5]
      obtain ⟨e6, h7, h⟩ := bind_some' h; replace h7 := getI_some h7; obtain ⟨h7', h7⟩ := h7
      try simp -implicitDefEqProofs only [go_sem, h5, h7, h7']
      obtain ⟨r8, h9, h⟩ := bind_some' h
      have hw := M_sets_Of.w ([e6]) _ h9
      simp -implicitDefEqProofs only [go_sem] at hw
      refine .plain _ _ rfl hw ?_
      clear hw
      try simp -implicitDefEqProofs only [go_sem, h5, h7, h7']
      obtain ⟨z10, h11, h⟩ := bind_some' h; replace h11 := room_some h11; obtain ⟨h11', rfl⟩ := h11
      refine LApp.map (F := AV.w) (xs := x.2.1) (ys := [r8]) t30_elem t23_size t23_bytes t23_zsize rfl (fun _ => rfl) (by (first | rfl | simp -implicitDefEqProofs only [go_sem, h5, h7, h7'] <;> rfl)) (by (first | rfl | simp -implicitDefEqProofs only [go_sem, h5, h7, h7'] <;> rfl)) h11' ?_
      try simp -implicitDefEqProofs only [go_sem, h5, h7, h7']
      exact LLoop.view [(50100500, some 50000024)] (by (first | rfl | simp -implicitDefEqProofs only [go_sem, h5, h7, h7'] <;> rfl)) (ih_M_graph_Connected_l0 _ _ h lo c Q hb)
    · replace h := ite_none h h5; replace h5 := bfalse h5
      try simp -implicitDefEqProofs only [go_sem, h5]
      injection h with h; subst h
      exact .inr ⟨[(50100500, some 50100500)], _, by (simp -implicitDefEqProofs only [go_sem, h5] <;> first | done | rfl | trivial), hb _ rfl⟩
theorem M_graph_Connected.l0.w : type_of% @M_graph_Connected.l0.ws := @M_graph_Connected.l0.ws
end
section
attribute [local instance] mu_23
def M_graph_Connected.l3 (x : List T_api_Edge × List Set64 × Int × Int × Int × Int × Int) : Option (Lp (List Set64) (List Set64)) :=
  if (decide (x.2.2.2.2.2.2 < x.2.2.2.2.2.1)) = true then
    (getI x.2.1 x.2.2.1) >>= fun (e17 : Set64) =>
    (getI x.2.1 x.2.2.2.2.2.2) >>= fun (e19 : Set64) =>
    M_graph_Linked (x.1, e17, e19) >>= fun r21 =>
    if r21 = true then
      if ((0 : Int) ≤ 0 ∧ 0 ≤ x.2.2.1 ∧ x.2.2.1 ≤ ((x.2.1.set (x.2.2.2.2.2.2).toNat (e19 ||| e17)).length : Int)) ∧ 0 < ((x.2.1.set (x.2.2.2.2.2.2).toNat (e19 ||| e17)).length : Int) then
        if ((0 : Int) ≤ (w64 (x.2.2.1 + 1)) ∧ (w64 (x.2.2.1 + 1)) ≤ ((x.2.1.set (x.2.2.2.2.2.2).toNat (e19 ||| e17)).length : Int) ∧ ((x.2.1.set (x.2.2.2.2.2.2).toNat (e19 ||| e17)).length : Int) ≤ ((x.2.1.set (x.2.2.2.2.2.2).toNat (e19 ||| e17)).length : Int)) ∧ 0 < ((x.2.1.set (x.2.2.2.2.2.2).toNat (e19 ||| e17)).length : Int) then
          if x.2.2.1 ≤ (w64 (x.2.2.1 + 1)) then
            (room 8 (sliceI (x.2.1.set (x.2.2.2.2.2.2).toNat (e19 ||| e17)) 0 x.2.2.1) (sliceI (x.2.1.set (x.2.2.2.2.2.2).toNat (e19 ||| e17)) (w64 (x.2.2.1 + 1)) ((x.2.1.set (x.2.2.2.2.2.2).toNat (e19 ||| e17)).length : Int))) >>= fun (z26 : List Set64) =>
            some (Lp.brk z26)
          else none
        else none
      else none
    else
      M_graph_Connected.l3 (x.1, x.2.1, x.2.2.1, x.2.2.2.1, x.2.2.2.2.1, x.2.2.2.2.2.1, (w64 (x.2.2.2.2.2.2 + 1)))
  else
    some (Lp.ret x.2.1)
  partial_fixpoint
theorem M_graph_Connected.l3.ws : (∀ (x : List T_api_Edge × List Set64 × Int × Int × Int × Int × Int) (o : Lp (List Set64) (List Set64)), M_graph_Connected.l3 x = some o → (fun (x : List T_api_Edge × List Set64 × Int × Int × Int × Int × Int) (o : Lp (List Set64) (List Set64)) => ∀ (lo : Option Nat) (c : LCtx) (Q : Exit → LEnv → Prop) (hb0 : ∀ s : List Set64, o = (Lp.brk s) → Q (.exit 3) ⟨[(0, .v (.slice .foreign (x.1.map T_api_Edge.av))), (5, .own 50100500 1 (s.map AV.w)), (30, .v (.i64 x.2.2.2.1)), (31, .v (.i64 x.2.2.2.2.1))], []⟩) (hb1 : ∀ s : List Set64, o = (Lp.ret s) → Q (.exit 6) ⟨[(0, .v (.slice .foreign (x.1.map T_api_Edge.av))), (5, .own 50100500 1 (s.map AV.w)), (30, .v (.i64 x.2.2.2.1)), (31, .v (.i64 x.2.2.2.2.1))], []⟩), LLoop Tryd.prog 11 lo c 3 (VQ Q) ⟨[(0, .v (.slice .foreign (x.1.map T_api_Edge.av))), (5, .own 50100500 1 (x.2.1.map AV.w)), (8, .v (.i64 x.2.2.1)), (30, .v (.i64 x.2.2.2.1)), (31, .v (.i64 x.2.2.2.2.1)), (34, .v (.i64 x.2.2.2.2.2.1)), (35, .v (.i64 x.2.2.2.2.2.2))], []⟩) x o) := by
  refine M_graph_Connected.l3.partial_correctness _ ?_
  · intro M_M_graph_Connected_l3 ih_M_graph_Connected_l3 x o h
    intro lo c Q hb0 hb1
    refine LLoop.step mix fn_11 (by kernel_rfl) ?_
    simp -implicitDefEqProofs only [go_sem, Tryd.f11]
    by_cases h16 : (decide (x.2.2.2.2.2.2 < x.2.2.2.2.2.1)) = true
    · replace h := ite_some h h16
      try simp -implicitDefEqProofs only [go_sem, h16]
      obtain ⟨e17, h18, h⟩ := bind_some' h; replace h18 := getI_some h18; obtain ⟨h18', h18⟩ := h18; have h18v : x.2.2.1 < (x.2.1.length : Int) := by have := (List.getElem?_eq_some_iff.1 h18).1; omega
      try simp -implicitDefEqProofs only [go_sem, h16, h18, h18', h18v]
      obtain ⟨e19, h20, h⟩ := bind_some' h; replace h20 := getI_some h20; obtain ⟨h20', h20⟩ := h20; have h20v : x.2.2.2.2.2.2 < (x.2.1.length : Int) := by have := (List.getElem?_eq_some_iff.1 h20).1; omega
      try simp -implicitDefEqProofs only [go_sem, h16, h18, h18', h18v, h20, h20', h20v]
      obtain ⟨r21, h22, h⟩ := bind_some' h
      refine .plain _ _ rfl (M_graph_Linked.w (x.1, e17, e19) _ h22) ?_
      try simp -implicitDefEqProofs only [go_sem, h16, h18, h18', h18v, h20, h20', h20v]
      by_cases h23 : r21 = true
      · replace h := ite_some h h23
        try simp -implicitDefEqProofs only [go_sem, h16, h18, h18', h18v, h20, h20', h20v, h23]
        refine LStV.map (F := AV.w) (xs := x.2.1) (x := e19) (x' := (e19 ||| e17)) (by (first | rfl | simp -implicitDefEqProofs only [go_sem, h16, h18, h18', h18v, h20, h20', h20v, h23] <;> rfl)) (by (first | rfl | simp -implicitDefEqProofs only [go_sem, h16, h18, h18', h18v, h20, h20', h20v, h23] <;> rfl)) (by rfl) (by rfl) (by rfl) h20 (by first | rfl | (first | rfl | simp -implicitDefEqProofs only [go_sem, h16, h18, h18', h18v, h20, h20', h20v, h23] <;> rfl)) ?_
        try simp -implicitDefEqProofs only [go_sem, h16, h18, h18', h18v, h20, h20', h20v, h23]
        obtain ⟨h24, h⟩ := pos_some h
        refine LSlV.map (F := AV.w) (xs := (x.2.1.set (x.2.2.2.2.2.2).toNat (e19 ||| e17))) (l := 0) (h := x.2.2.1) t30_elem t23_size (by rfl) (by first | rfl | simp only [abound, List.length_map]) (by first | rfl | simp only [abound, List.length_map]) h24 ?_
        try simp -implicitDefEqProofs only [go_sem, h16, h18, h18', h18v, h20, h20', h20v, h23]
        obtain ⟨h25, h⟩ := pos_some h
        refine LSlV.map (F := AV.w) (xs := (x.2.1.set (x.2.2.2.2.2.2).toNat (e19 ||| e17))) (l := (w64 (x.2.2.1 + 1))) (h := ((x.2.1.set (x.2.2.2.2.2.2).toNat (e19 ||| e17)).length : Int)) t30_elem t23_size (by rfl) (by first | rfl | simp only [abound, List.length_map]) (by first | rfl | simp only [abound, List.length_map]) h25 ?_
        try simp -implicitDefEqProofs only [go_sem, h16, h18, h18', h18v, h20, h20', h20v, h23]
        obtain ⟨h28, h⟩ := pos_some h
        obtain ⟨z26, h27, h⟩ := bind_some' h; replace h27 := room_some h27; obtain ⟨h27', rfl⟩ := h27
        refine LCut.map (F := AV.w) (xs := (x.2.1.set (x.2.2.2.2.2.2).toNat (e19 ||| e17))) (A := x.2.2.1) (B := (w64 (x.2.2.1 + 1))) (C := ((x.2.1.set (x.2.2.2.2.2.2).toNat (e19 ||| e17)).length : Int)) (by rfl) (by first | rfl | simp only [Int.sub_zero]) ⟨by omega, by omega⟩ (by rfl) (by rfl) ⟨by omega, by omega, by omega⟩ h28 t30_elem t30_elem t23_size t23_bytes t23_zsize rfl (fun _ => rfl) (by (first | rfl | simp -implicitDefEqProofs only [go_sem, h16, h18, h18', h18v, h20, h20', h20v, h23] <;> rfl)) (by rfl) (by rfl) (by (first | rfl | simp -implicitDefEqProofs only [go_sem, h16, h18, h18', h18v, h20, h20', h20v, h23] <;> rfl)) h27' ?_
        try simp -implicitDefEqProofs only [go_sem, h16, h18, h18', h18v, h20, h20', h20v, h23]
        injection h with h; subst h
        exact .inr ⟨[(50100500, some 50000065)], _, by (simp -implicitDefEqProofs only [go_sem, h16, h18, h18', h18v, h20, h20', h20v, h23] <;> first | done | rfl | trivial), hb0 _ rfl⟩
      · replace h := ite_none h h23; replace h23 := bfalse h23
        try simp -implicitDefEqProofs only [go_sem, h16, h18, h18', h18v, h20, h20', h20v, h23]
        exact LLoop.view [(50100500, some 50100500)] (by (first | rfl | simp -implicitDefEqProofs only [go_sem, h16, h18, h18', h18v, h20, h20', h20v, h23] <;> rfl)) (ih_M_graph_Connected_l3 _ _ h lo c Q hb0 hb1)
    · replace h := ite_none h h16; replace h16 := bfalse h16
      try simp -implicitDefEqProofs only [go_sem, h16]
      injection h with h; subst h
      exact .inr ⟨[(50100500, some 50100500)], _, by (simp -implicitDefEqProofs only [go_sem, h16] <;> first | done | rfl | trivial), hb1 _ rfl⟩
theorem M_graph_Connected.l3.w : type_of% @M_graph_Connected.l3.ws := @M_graph_Connected.l3.ws
end
section
attribute [local instance] mu_23
def M_graph_Connected.l2 (x : List T_api_Edge × List Set64 × Int × Int) : Option (Lp (List Set64) (List Set64)) :=
  if (decide (x.2.2.2 < x.2.2.1)) = true then
    M_graph_Connected.l3 (x.1, x.2.1, x.2.2.2, x.2.2.1, x.2.2.2, x.2.2.2, 0) >>= fun (o29 : Lp (List Set64) (List Set64)) => match o29 with
    | .brk s31 =>
      some (Lp.brk s31)
    | .ret s32 =>
      M_graph_Connected.l2 (x.1, s32, x.2.2.1, (w64 (x.2.2.2 + 1)))
  else
    some (Lp.ret x.2.1)
  partial_fixpoint
theorem M_graph_Connected.l2.ws : (∀ (x : List T_api_Edge × List Set64 × Int × Int) (o : Lp (List Set64) (List Set64)), M_graph_Connected.l2 x = some o → (fun (x : List T_api_Edge × List Set64 × Int × Int) (o : Lp (List Set64) (List Set64)) => ∀ (lo : Option Nat) (c : LCtx) (Q : Exit → LEnv → Prop) (hb0 : ∀ s : List Set64, o = (Lp.brk s) → Q (.exit 3) ⟨[(0, .v (.slice .foreign (x.1.map T_api_Edge.av))), (5, .own 50100500 1 (s.map AV.w))], []⟩) (hb1 : ∀ s : List Set64, o = (Lp.ret s) → Q (.exit 4) ⟨[(0, .v (.slice .foreign (x.1.map T_api_Edge.av))), (5, .own 50100500 1 (s.map AV.w))], []⟩), LLoop Tryd.prog 11 lo c 2 (VQ Q) ⟨[(0, .v (.slice .foreign (x.1.map T_api_Edge.av))), (5, .own 50100500 1 (x.2.1.map AV.w)), (30, .v (.i64 x.2.2.1)), (31, .v (.i64 x.2.2.2))], []⟩) x o) := by
  refine M_graph_Connected.l2.partial_correctness _ ?_
  · intro M_M_graph_Connected_l2 ih_M_graph_Connected_l2 x o h
    intro lo c Q hb0 hb1
    refine LLoop.step mix fn_11 (by kernel_rfl) ?_
    simp -implicitDefEqProofs only [go_sem, Tryd.f11]
    by_cases h15 : (decide (x.2.2.2 < x.2.2.1)) = true
    · replace h := ite_some h h15
      try simp -implicitDefEqProofs only [go_sem, h15]
      obtain ⟨o29, h30, h⟩ := bind_some' h
      refine LLoop.viewQ (LLoop.view [(50100500, some 50100500)] (by (first | rfl | simp -implicitDefEqProofs only [go_sem, h15] <;> rfl)) (M_graph_Connected.l3.w (x.1, x.2.1, x.2.2.2, x.2.2.1, x.2.2.2, x.2.2.2, 0) _ h30 _ _ _ ?_ ?_))
      · intro s31 hs'; subst hs'
        try dsimp only at h
        try simp -implicitDefEqProofs only [go_sem, h15]
        injection h with h; subst h
        exact .inr ⟨[(50100500, some 50100500)], _, by (simp -implicitDefEqProofs only [go_sem, h15] <;> first | done | rfl | trivial), hb0 _ rfl⟩
      · intro s32 hs'; subst hs'
        try dsimp only at h
        try simp -implicitDefEqProofs only [go_sem, h15]
        exact LLoop.view [(50100500, some 50100500)] (by (first | rfl | simp -implicitDefEqProofs only [go_sem, h15] <;> rfl)) (ih_M_graph_Connected_l2 _ _ h lo c Q hb0 hb1)
    · replace h := ite_none h h15; replace h15 := bfalse h15
      try simp -implicitDefEqProofs only [go_sem, h15]
      injection h with h; subst h
      exact .inr ⟨[(50100500, some 50100500)], _, by (simp -implicitDefEqProofs only [go_sem, h15] <;> first | done | rfl | trivial), hb1 _ rfl⟩
theorem M_graph_Connected.l2.w : type_of% @M_graph_Connected.l2.ws := @M_graph_Connected.l2.ws
end
section
attribute [local instance] mu_23
def M_graph_Connected.l1 (x : List T_api_Edge × List Set64) : Option (Lp (List Set64) (Bool)) :=
  if (decide ((x.2.length : Int) > 1)) = true then
    M_graph_Connected.l2 (x.1, x.2, (x.2.length : Int), 0) >>= fun (o33 : Lp (List Set64) (List Set64)) => match o33 with
    | .brk s35 =>
      M_graph_Connected.l1 (x.1, s35)
    | .ret s36 =>
      some (.ret false)
  else
    some (.brk x.2)
  partial_fixpoint
theorem M_graph_Connected.l1.ws : (∀ (x : List T_api_Edge × List Set64) (o : Lp (List Set64) (Bool)), M_graph_Connected.l1 x = some o → (fun (x : List T_api_Edge × List Set64) (o : Lp (List Set64) (Bool)) => ∀ (lo : Option Nat) (c : LCtx) (Q : Exit → LEnv → Prop) (hb : ∀ s : List Set64, o = Lp.brk s → Q (.exit 2) ⟨[(5, .own 50100500 1 (s.map AV.w))], []⟩) (hr : ∀ (r : Bool) (L : LEnv), o = .ret r → LPostF Tryd.prog [.tmp 4] (.bool r) (fun _ => True) .ret L → Q .ret L), LLoop Tryd.prog 11 lo c 1 (VQ Q) ⟨[(0, .v (.slice .foreign (x.1.map T_api_Edge.av))), (5, .own 50100500 1 (x.2.map AV.w))], []⟩) x o) := by
  refine M_graph_Connected.l1.partial_correctness _ ?_
  · intro M_M_graph_Connected_l1 ih_M_graph_Connected_l1 x o h
    intro lo c Q hb hr
    refine LLoop.step mix fn_11 (by kernel_rfl) ?_
    simp -implicitDefEqProofs only [go_sem, Tryd.f11]
    by_cases h14 : (decide ((x.2.length : Int) > 1)) = true
    · replace h := ite_some h h14
      try simp -implicitDefEqProofs only [go_sem, h14]
      obtain ⟨o33, h34, h⟩ := bind_some' h
      refine LLoop.viewQ (LLoop.view [(50100500, some 50100500)] (by (first | rfl | simp -implicitDefEqProofs only [go_sem, h14] <;> rfl)) (M_graph_Connected.l2.w (x.1, x.2, (x.2.length : Int), 0) _ h34 _ _ _ ?_ ?_))
      · intro s35 hs'; subst hs'
        try dsimp only at h
        try simp -implicitDefEqProofs only [go_sem, h14]
        exact LLoop.view [(50100500, some 50100500)] (by (first | rfl | simp -implicitDefEqProofs only [go_sem, h14] <;> rfl)) (ih_M_graph_Connected_l1 _ _ h lo c Q hb hr)
      · intro s36 hs'; subst hs'
        try dsimp only at h
        try simp -implicitDefEqProofs only [go_sem, h14]
        injection h with h; subst h
        exact .inl (hr _ _ rfl (by (first | rfl | simp -implicitDefEqProofs only [go_sem, h14] <;> rfl)))
    · replace h := ite_none h h14; replace h14 := bfalse h14
      try simp -implicitDefEqProofs only [go_sem, h14]
      injection h with h; subst h
      exact .inr ⟨[(50100500, some 50100500)], _, by (simp -implicitDefEqProofs only [go_sem, h14] <;> first | done | rfl | trivial), hb _ rfl⟩
theorem M_graph_Connected.l1.w : type_of% @M_graph_Connected.l1.ws := @M_graph_Connected.l1.ws
end
section
attribute [local instance] mu_23
def M_graph_Connected (x : List T_api_Edge × Set64) : Option (Bool) :=
  M_graph_full x.1 >>= fun r1 =>
  M_sets_List x.2 >>= fun r3 =>
  M_graph_Connected.l0 (r1, ([] : List Set64), r3, (r3.length : Int), 0) >>= fun (o12 : List Set64) =>
  M_graph_Connected.l1 (r1, o12) >>= fun (o37 : Lp (List Set64) (Bool)) => match o37 with
  | .brk s40 =>
    some ((s40.length : Int) == 1)
  | .ret r39 =>
    some r39
set_option maxHeartbeats 8000000 in
theorem M_graph_Connected.w : ∀ (x : List T_api_Edge × Set64) (r : Bool), M_graph_Connected x = some r → (fun (x : List T_api_Edge × Set64) (r : Bool) => Fn Tryd.prog 11 [.slice .foreign (x.1.map T_api_Edge.av), .w x.2] (.bool r)) x r := by
  intro x r h
  rw [M_graph_Connected] at h
  try dsimp only
  refine Fn.of_lc mix fn_11 lok_11 (by rfl) (flC (flat_slice _ T_api_Edge.flat _) (flC (.atom _) (flN))) (.atom _) ?_
  simp -implicitDefEqProofs only [go_sem, Tryd.f11]
  obtain ⟨r1, h2, h⟩ := bind_some' h
  refine .plain _ _ rfl (M_graph_full.w x.1 _ h2) ?_
  try simp -implicitDefEqProofs only [go_sem]
  obtain ⟨r3, h4, h⟩ := bind_some' h
  refine .plain _ _ rfl (M_sets_List.w x.2 _ h4) ?_
  try simp -implicitDefEqProofs only [go_sem]
  obtain ⟨o12, h13, h⟩ := bind_some' h
  refine LLoop.viewQ (LLoop.view [(50100500, none)] (by (first | rfl | simp -implicitDefEqProofs only [go_sem] <;> rfl)) (M_graph_Connected.l0.w (r1, ([] : List Set64), r3, (r3.length : Int), 0) _ h13 _ _ _ ?_))
  intro s' hs'; subst hs'
  try simp -implicitDefEqProofs only [go_sem]
  obtain ⟨o37, h38, h⟩ := bind_some' h
  refine LLoop.viewQ (LLoop.view [(50100500, some 50100500)] (by (first | rfl | simp -implicitDefEqProofs only [go_sem] <;> rfl)) (M_graph_Connected.l1.w (r1, o12) _ h38 _ _ _ ?_ ?_))
  · intro s40 hs'; subst hs'
    try simp -implicitDefEqProofs only [go_sem]
    injection h with h; subst h
    first | rfl | simp -implicitDefEqProofs only [go_sem] <;> rfl
  · intro r39 L' hs' hL'; subst hs'
    injection h with h; subst h
    first | exact hL' | (simp -implicitDefEqProofs only [go_sem]; exact hL') | (simp -implicitDefEqProofs only [go_sem]; simp -implicitDefEqProofs only [go_sem] at hL'; exact hL')
end
end Go.Proofs.YtdnnmopncndebaaDoor.G
set_option linter.unusedVariables false
set_option linter.unusedSimpArgs false
set_option maxRecDepth 100000
namespace Go.Proofs.YtdnnmopncndebaaDoor.G
def M_ref01_Min (x : Set64) : Option (Int) :=
  M_ref01_List x >>= fun r1 =>
  if ((r1.length : Int) == 0) = true then
    some (-1)
  else
    (r1[0]?) >>= fun (e4 : Int) =>
    some e4
end Go.Proofs.YtdnnmopncndebaaDoor.G
set_option linter.unusedVariables false
set_option linter.unusedSimpArgs false
set_option maxRecDepth 100000
namespace Go.Proofs.YtdnnmopncndebaaDoor.G
def M_ref21_near (x : Set64 × Set64 × Set64 × Set64) : Option (Set64) :=
  if (x.1 == 0#64) = true then
    some (0#64)
  else
    if (x.2.1 == 0#64) = true then
      some (0#64)
    else
      M_ref01_In (x.1, x.2.2.1) >>= fun r3 =>
      if r3 = true then
        if ((x.2.1 &&& x.2.2.1) != 0#64) = true then
          some (0#64)
        else
          if ((x.2.1 &&& x.2.2.2) != 0#64) = true then
            some (0#64)
          else
            M_ref01_Min x.2.1 >>= fun r8 =>
            M_ref01_Of ([r8]) >>= fun r10 =>
            some r10
      else
        some (0#64)
end Go.Proofs.YtdnnmopncndebaaDoor.G
set_option linter.unusedVariables false
set_option linter.unusedSimpArgs false
set_option maxRecDepth 100000
namespace Go.Proofs.YtdnnmopncndebaaDoor.G
def M_ref21_Near.l0 (x : List T_api_Edge × Set64 × Set64 × Set64 × Int) : Option (Set64) :=
  if (decide (x.2.2.2.2 < (x.1.length : Int))) = true then
    (getI x.1 x.2.2.2.2) >>= fun (e2 : T_api_Edge) =>
    M_ref21_near (e2.Left, e2.Right, x.2.1, x.2.2.1) >>= fun r4 =>
    M_ref21_near (e2.Right, e2.Left, x.2.1, x.2.2.1) >>= fun r6 =>
    M_ref21_Near.l0 (x.1, x.2.1, x.2.2.1, ((x.2.2.2.1 ||| r4) ||| r6), (w64 (x.2.2.2.2 + 1)))
  else
    some x.2.2.2.1
  partial_fixpoint
def M_ref21_Near (x : List T_api_Edge × Set64 × Set64) : Option (Set64) :=
  M_ref21_Near.l0 (x.1, x.2.1, x.2.2, 0#64, 0) >>= fun (o8 : Set64) =>
  some o8
end Go.Proofs.YtdnnmopncndebaaDoor.G
set_option linter.unusedVariables false
set_option linter.unusedSimpArgs false
set_option maxRecDepth 100000
namespace Go.Proofs.YtdnnmopncndebaaDoor.G
def M_ref21_Linked.l0 (x : List T_api_Edge × Set64 × Set64 × Int) : Option (Lp (Unit) (Bool)) :=
  if (decide (x.2.2.2 < (x.1.length : Int))) = true then
    (getI x.1 x.2.2.2) >>= fun (e2 : T_api_Edge) =>
    M_ref01_In (e2.Left, x.2.1) >>= fun r4 =>
    if r4 = true then
      M_ref01_In (e2.Right, x.2.2.1) >>= fun r7 =>
      if r7 = true then
        some (.ret true)
      else
        M_ref01_In (e2.Right, x.2.1) >>= fun r10 =>
        if r10 = true then
          M_ref01_In (e2.Left, x.2.2.1) >>= fun r13 =>
          if r13 = true then
            some (.ret true)
          else
            M_ref21_Linked.l0 (x.1, x.2.1, x.2.2.1, (w64 (x.2.2.2 + 1)))
        else
          M_ref21_Linked.l0 (x.1, x.2.1, x.2.2.1, (w64 (x.2.2.2 + 1)))
    else
      M_ref01_In (e2.Right, x.2.1) >>= fun r16 =>
      if r16 = true then
        M_ref01_In (e2.Left, x.2.2.1) >>= fun r19 =>
        if r19 = true then
          some (.ret true)
        else
          M_ref21_Linked.l0 (x.1, x.2.1, x.2.2.1, (w64 (x.2.2.2 + 1)))
      else
        M_ref21_Linked.l0 (x.1, x.2.1, x.2.2.1, (w64 (x.2.2.2 + 1)))
  else
    some (.brk ())
  partial_fixpoint
def M_ref21_Linked (x : List T_api_Edge × Set64 × Set64) : Option (Bool) :=
  M_ref21_Linked.l0 (x.1, x.2.1, x.2.2, 0) >>= fun (o22 : Lp (Unit) (Bool)) => match o22 with
  | .brk s25 =>
    some false
  | .ret r24 =>
    some r24
end Go.Proofs.YtdnnmopncndebaaDoor.G
set_option linter.unusedVariables false
set_option linter.unusedSimpArgs false
set_option maxRecDepth 100000
namespace Go.Proofs.YtdnnmopncndebaaDoor.G
def M_ref21_All.l2 (x : List T_api_Edge × List Set64 × List Bool × Int × Bool × Int × Set64 × Int) : Option (Bool) :=
  if (decide (x.2.2.2.2.2.2.2 < x.2.2.2.1)) = true then
    (getI x.2.1 x.2.2.2.2.2.2.2) >>= fun (e21 : Set64) =>
    if (e21 == x.2.2.2.2.2.2.1) = true then
      (getI x.2.2.1 x.2.2.2.2.2.2.2) >>= fun (e24 : Bool) =>
      if e24 = true then
        (getI x.2.1 x.2.2.2.2.2.1) >>= fun (e27 : Set64) =>
        M_ref21_Linked (x.1, e27, x.2.2.2.2.2.2.1) >>= fun r29 =>
        if r29 = true then
          M_ref21_All.l2 (x.1, x.2.1, x.2.2.1, x.2.2.2.1, true, x.2.2.2.2.2.1, x.2.2.2.2.2.2.1, (w64 (x.2.2.2.2.2.2.2 + 1)))
        else
          M_ref21_All.l2 (x.1, x.2.1, x.2.2.1, x.2.2.2.1, x.2.2.2.2.1, x.2.2.2.2.2.1, x.2.2.2.2.2.2.1, (w64 (x.2.2.2.2.2.2.2 + 1)))
      else
        M_ref21_All.l2 (x.1, x.2.1, x.2.2.1, x.2.2.2.1, x.2.2.2.2.1, x.2.2.2.2.2.1, x.2.2.2.2.2.2.1, (w64 (x.2.2.2.2.2.2.2 + 1)))
    else
      M_ref21_All.l2 (x.1, x.2.1, x.2.2.1, x.2.2.2.1, x.2.2.2.2.1, x.2.2.2.2.2.1, x.2.2.2.2.2.2.1, (w64 (x.2.2.2.2.2.2.2 + 1)))
  else
    some x.2.2.2.2.1
  partial_fixpoint
def M_ref21_All.l1 (x : List T_api_Edge × List Set64 × List Bool × Int × Bool × Int) : Option (Bool) :=
  if (decide (x.2.2.2.2.2 < x.2.2.2.1)) = true then
    if x.2.2.2.2.1 = true then
      some x.2.2.2.2.1
    else
      (getI x.2.2.1 x.2.2.2.2.2) >>= fun (e10 : Bool) =>
      if e10 = true then
        (getI x.2.1 x.2.2.2.2.2) >>= fun (e13 : Set64) =>
        (getI x.2.1 x.2.2.2.1) >>= fun (e15 : Set64) =>
        M_ref01_In (e13, e15) >>= fun r17 =>
        if r17 = true then
          M_ref21_All.l2 (x.1, x.2.1, x.2.2.1, x.2.2.2.1, x.2.2.2.2.1, x.2.2.2.2.2, (e15 &&& ~~~e13), 0) >>= fun (o32 : Bool) =>
          M_ref21_All.l1 (x.1, x.2.1, x.2.2.1, x.2.2.2.1, o32, (w64 (x.2.2.2.2.2 + 1)))
        else
          M_ref21_All.l1 (x.1, x.2.1, x.2.2.1, x.2.2.2.1, x.2.2.2.2.1, (w64 (x.2.2.2.2.2 + 1)))
      else
        M_ref21_All.l1 (x.1, x.2.1, x.2.2.1, x.2.2.2.1, x.2.2.2.2.1, (w64 (x.2.2.2.2.2 + 1)))
  else
    some x.2.2.2.2.1
  partial_fixpoint
def M_ref21_All.l0 (x : List T_api_Edge × List Set64 × List Bool × Int) : Option (List Bool) :=
  if (decide (x.2.2.2 < (x.2.1.length : Int))) = true then
    (getI x.2.1 x.2.2.2) >>= fun (e4 : Set64) =>
    M_ref01_Count e4 >>= fun r6 =>
    M_ref21_All.l1 (x.1, x.2.1, x.2.2.1, x.2.2.2, (r6 == 1), 0) >>= fun (o34 : Bool) =>
    (room 1 x.2.2.1 ([o34])) >>= fun (z36 : List Bool) =>
    M_ref21_All.l0 (x.1, x.2.1, z36, (w64 (x.2.2.2 + 1)))
  else
    some x.2.2.1
  partial_fixpoint
def M_ref21_All (x : List T_api_Edge × Set64) : Option (List Set64 × List Bool) :=
  M_ref01_Parts x.2 >>= fun r1 =>
  M_ref21_All.l0 (x.1, r1, ([] : List Bool), 0) >>= fun (o38 : List Bool) =>
  some (r1, o38)
end Go.Proofs.YtdnnmopncndebaaDoor.G
set_option linter.unusedVariables false
set_option linter.unusedSimpArgs false
set_option maxRecDepth 100000
namespace Go.Proofs.YtdnnmopncndebaaDoor.G
theorem lok_13 : (Tryd.f13.body.isSome && !(Tryd.f13.name == "runtime.NumGoroutine") && okL (bodyF Tryd.f13) Tryd.f13.ntmps (bodyF Tryd.f13)) = true := by kernel_rfl
def M_ref21_Full.l0 (x : List T_api_Edge × List T_api_Edge × Int) : Option (List T_api_Edge) :=
  if (decide (x.2.2 < (x.1.length : Int))) = true then
    (getI x.1 x.2.2) >>= fun (e2 : T_api_Edge) =>
    if (e2.Left != 0#64) = true then
      if (e2.Right != 0#64) = true then
        (room 56 x.2.1 ([e2])) >>= fun (z6 : List T_api_Edge) =>
        M_ref21_Full.l0 (x.1, z6, (w64 (x.2.2 + 1)))
      else
        M_ref21_Full.l0 (x.1, x.2.1, (w64 (x.2.2 + 1)))
    else
      M_ref21_Full.l0 (x.1, x.2.1, (w64 (x.2.2 + 1)))
  else
    some x.2.1
  partial_fixpoint
theorem M_ref21_Full.l0.ws : (∀ (x : List T_api_Edge × List T_api_Edge × Int) (o : List T_api_Edge), M_ref21_Full.l0 x = some o → (fun (x : List T_api_Edge × List T_api_Edge × Int) (o : List T_api_Edge) => ∀ (lo : Option Nat) (c : LCtx) (Q : Exit → LEnv → Prop) (hb : ∀ s : List T_api_Edge, o = s → Q (.exit 0) ⟨[(3, .own 100300 5 (s.map T_api_Edge.av))], []⟩), LLoop Tryd.prog 13 lo c 0 (VQ Q) ⟨[(0, .v (.slice .foreign (x.1.map T_api_Edge.av))), (3, .own 100300 5 (x.2.1.map T_api_Edge.av)), (4, .v (.i64 x.2.2))], []⟩) x o) := by
  refine M_ref21_Full.l0.partial_correctness _ ?_
  · intro M_M_ref21_Full_l0 ih_M_ref21_Full_l0 x o h
    intro lo c Q hb
    refine LLoop.step mix fn_13 (by kernel_rfl) ?_
    simp -implicitDefEqProofs only [go_sem, Tryd.f13]
    by_cases h1 : (decide (x.2.2 < (x.1.length : Int))) = true
    · replace h := ite_some h h1
      try simp -implicitDefEqProofs only [go_sem, h1]
      obtain ⟨e2, h3, h⟩ := bind_some' h; replace h3 := getI_some h3; obtain ⟨h3', h3⟩ := h3
      try simp -implicitDefEqProofs only [go_sem, h1, h3, h3']
      by_cases h4 : (e2.Left != 0#64) = true
      · replace h := ite_some h h4
        try simp -implicitDefEqProofs only [go_sem, h1, h3, h3', h4]
        by_cases h5 : (e2.Right != 0#64) = true
        · replace h := ite_some h h5
          try simp -implicitDefEqProofs only [go_sem, h1, h3, h3', h4, h5]
          obtain ⟨z6, h7, h⟩ := bind_some' h; replace h7 := room_some h7; obtain ⟨h7', rfl⟩ := h7
          refine LApp.map (F := T_api_Edge.av) (xs := x.2.1) (ys := [e2]) t22_elem t34_size t34_bytes t34_zsize rfl T_api_Edge.len (by (first | rfl | simp -implicitDefEqProofs only [go_sem, h1, h3, h3', h4, h5] <;> rfl)) (by (first | rfl | simp -implicitDefEqProofs only [go_sem, h1, h3, h3', h4, h5] <;> rfl)) h7' ?_
          try simp -implicitDefEqProofs only [go_sem, h1, h3, h3', h4, h5]
          exact LLoop.view [(100300, some 32)] (by (first | rfl | simp -implicitDefEqProofs only [go_sem, h1, h3, h3', h4, h5] <;> rfl)) (ih_M_ref21_Full_l0 _ _ h lo c Q hb)
        · replace h := ite_none h h5; replace h5 := bfalse h5
          try simp -implicitDefEqProofs only [go_sem, h1, h3, h3', h4, h5]
          exact LLoop.view [(100300, some 100300)] (by (first | rfl | simp -implicitDefEqProofs only [go_sem, h1, h3, h3', h4, h5] <;> rfl)) (ih_M_ref21_Full_l0 _ _ h lo c Q hb)
      · replace h := ite_none h h4; replace h4 := bfalse h4
        try simp -implicitDefEqProofs only [go_sem, h1, h3, h3', h4]
        exact LLoop.view [(100300, some 100300)] (by (first | rfl | simp -implicitDefEqProofs only [go_sem, h1, h3, h3', h4] <;> rfl)) (ih_M_ref21_Full_l0 _ _ h lo c Q hb)
    · replace h := ite_none h h1; replace h1 := bfalse h1
      try simp -implicitDefEqProofs only [go_sem, h1]
      injection h with h; subst h
      exact .inr ⟨[(100300, some 100300)], _, by (simp -implicitDefEqProofs only [go_sem, h1] <;> first | done | rfl | trivial), hb _ rfl⟩
theorem M_ref21_Full.l0.w : type_of% @M_ref21_Full.l0.ws := @M_ref21_Full.l0.ws
def M_ref21_Full (x : List T_api_Edge) : Option (List T_api_Edge) :=
  M_ref21_Full.l0 (x, ([] : List T_api_Edge), 0) >>= fun (o8 : List T_api_Edge) =>
  some o8
set_option maxHeartbeats 8000000 in
theorem M_ref21_Full.w : ∀ (x : List T_api_Edge) (r : List T_api_Edge), M_ref21_Full x = some r → (fun (x : List T_api_Edge) (r : List T_api_Edge) => Fn Tryd.prog 13 [.slice .foreign (x.map T_api_Edge.av)] (.slice .foreign (r.map T_api_Edge.av))) x r := by
  intro x r h
  rw [M_ref21_Full] at h
  try dsimp only
  refine Fn.of_lc mix fn_13 lok_13 (by rfl) (flC (flat_slice _ T_api_Edge.flat _) (flN)) (flat_slice _ T_api_Edge.flat _) ?_
  simp -implicitDefEqProofs only [go_sem, Tryd.f13]
  obtain ⟨o8, h9, h⟩ := bind_some' h
  refine LLoop.viewQ (LLoop.view [(100300, none)] (by (first | rfl | simp -implicitDefEqProofs only [go_sem] <;> rfl)) (M_ref21_Full.l0.w (x, ([] : List T_api_Edge), 0) _ h9 _ _ _ ?_))
  intro s' hs'; subst hs'
  try simp -implicitDefEqProofs only [go_sem]
  injection h with h; subst h
  first | rfl | simp -implicitDefEqProofs only [go_sem] <;> rfl
end Go.Proofs.YtdnnmopncndebaaDoor.G
set_option linter.unusedVariables false
set_option linter.unusedSimpArgs false
set_option maxRecDepth 100000
namespace Go.Proofs.YtdnnmopncndebaaDoor.G
def M_ref21_Connected.l0 (x : Set64 × List Set64 × List Bool × Int) : Option (Lp (Unit) (Bool)) :=
  if (decide (x.2.2.2 < (x.2.1.length : Int))) = true then
    (getI x.2.1 x.2.2.2) >>= fun (e6 : Set64) =>
    if (e6 == x.1) = true then
      (getI x.2.2.1 x.2.2.2) >>= fun (e9 : Bool) =>
      some (.ret e9)
    else
      M_ref21_Connected.l0 (x.1, x.2.1, x.2.2.1, (w64 (x.2.2.2 + 1)))
  else
    some (.brk ())
  partial_fixpoint
def M_ref21_Connected (x : List T_api_Edge × Set64) : Option (Bool) :=
  M_ref21_Full x.1 >>= fun r1 =>
  M_ref21_All (r1, x.2) >>= fun r3 =>
  M_ref21_Connected.l0 (x.2, r3.1, r3.2, 0) >>= fun (o11 : Lp (Unit) (Bool)) => match o11 with
  | .brk s14 =>
    some false
  | .ret r13 =>
    some r13
end Go.Proofs.YtdnnmopncndebaaDoor.G
set_option linter.unusedVariables false
set_option linter.unusedSimpArgs false
namespace Go.Proofs.YtdnnmopncndebaaDoor.G

/- The lowest member. -/
theorem memb_head (s : Set64) (h : s ≠ 0#64) : ∃ (k : Nat) (t : List Int), k < 64 ∧ memb s = (k : Int) :: t ∧ s.getLsbD k = true ∧ ∀ j, j < k → s.getLsbD j = false := by
  have hne : memb s ≠ [] := by
    intro e
    exact h ((zero_iff s).2 fun n => by
      cases hn : hasI s n with
      | false => rfl
      | true => have := (memb_mem s n).2 hn; rw [e] at this; cases this)
  obtain ⟨a, t, ha⟩ := List.exists_cons_of_ne_nil hne
  have ham : a ∈ memb s := by rw [ha]; simp
  have hr := memb_range s a ham
  have hs := memb_sorted s
  rw [ha] at hs
  refine ⟨a.toNat, t, by omega, by rw [ha]; congr 1; omega, ?_, fun j hj => ?_⟩
  · have := (memb_mem s a).1 ham
    rw [show a = (a.toNat : Int) by omega, hasI_nat _ _ (by omega)] at this
    exact this
  · cases hb : s.getLsbD j with
    | false => rfl
    | true =>
      have : (j : Int) ∈ memb s := (memb_mem s j).2 (by rw [hasI_nat _ _ (by omega)]; exact hb)
      rw [ha, List.mem_cons] at this
      rcases this with h1 | h1
      · omega
      · have := (List.pairwise_cons.1 hs).1 _ h1; omega
theorem low_and (s : Set64) (k : Nat) (hk : k < 64) (h1 : s.getLsbD k = true) (h2 : ∀ j, j < k → s.getLsbD j = false) : s &&& -s = BitVec.twoPow 64 k := by
  have hm : s.toNat % 2 ^ (k + 1) = 2 ^ k := by
    apply Nat.eq_of_testBit_eq
    intro i
    rw [Nat.testBit_mod_two_pow, Nat.testBit_two_pow]
    by_cases h : i < k
    · have := h2 i h
      rw [BitVec.getLsbD] at this
      simp [this, show k ≠ i by omega]
    · by_cases h' : i = k
      · subst h'
        rw [BitVec.getLsbD] at h1
        simp [h1]
      · simp [show ¬ i < k + 1 by omega, show k ≠ i by omega]
  apply BitVec.eq_of_getLsbD_eq
  intro i hi
  rw [BitVec.getLsbD_and, BitVec.getLsbD_twoPow, BitVec.neg_eq_not_add]
  have hnot : ∀ j, j < 64 → (~~~s).getLsbD j = !s.getLsbD j := fun j hj => by simp [BitVec.getLsbD_not, hj]
  have key : (~~~s + 1#64).getLsbD i = if i < k then false else if i = k then true else !s.getLsbD i := by
    have hsl := s.isLt
    have hdiv : s.toNat = 2 ^ (k + 1) * (s.toNat / 2 ^ (k + 1)) + 2 ^ k := by
      have := Nat.div_add_mod s.toNat (2 ^ (k + 1)); omega
    have hpk : 2 ^ (k + 1) = 2 * 2 ^ k := by rw [Nat.pow_succ]; omega
    have hp0 : 0 < 2 ^ k := Nat.two_pow_pos k
    have h64 : 2 ^ 64 = 2 ^ (k + 1) * 2 ^ (63 - k) := by rw [← Nat.pow_add]; congr 1; omega
    generalize hq : s.toNat / 2 ^ (k + 1) = q at hdiv
    have hql : q < 2 ^ (63 - k) := by
      have h3 : 2 ^ (k + 1) * q < 2 ^ (k + 1) * 2 ^ (63 - k) := by rw [← h64]; omega
      exact Nat.lt_of_mul_lt_mul_left h3
    have hval : (~~~s + 1#64).toNat = 2 ^ (k + 1) * (2 ^ (63 - k) - 1 - q) + 2 ^ k := by
      rw [BitVec.toNat_add, BitVec.toNat_not]
      have h5 : 2 ^ (k + 1) * (2 ^ (63 - k) - 1 - q) + 2 ^ (k + 1) * q + 2 ^ (k + 1) = 2 ^ 64 := by
        rw [h64, ← Nat.mul_add, ← Nat.mul_succ]; congr 1; omega
      have h1' : (1#64).toNat = 1 := rfl
      rw [h1']
      rw [Nat.mod_eq_of_lt (by omega)]
      omega
    have hval2 : ∀ (c : Nat) (j : Nat), (2 ^ (k + 1) * c + 2 ^ k).testBit j = if j < k then false else if j = k then true else c.testBit (j - (k + 1)) := by
      intro c j
      rw [Nat.testBit_two_pow_mul_add _ (by omega)]
      by_cases h : j < k + 1
      · rw [if_pos h, Nat.testBit_two_pow]
        by_cases h' : j < k
        · simp [h', show k ≠ j by omega]
        · have : j = k := by omega
          subst this; simp
      · rw [if_neg h, if_neg (by omega), if_neg (by omega)]
    rw [BitVec.getLsbD, hval, hval2]
    by_cases h : i < k
    · simp [h]
    · by_cases h' : i = k
      · simp [h']
      · rw [if_neg h, if_neg h', if_neg h, if_neg h']
        have e1 : s.getLsbD i = q.testBit (i - (k + 1)) := by
          rw [BitVec.getLsbD, hdiv, hval2, if_neg h, if_neg h']
        rw [e1, show 2 ^ (63 - k) - 1 - q = 2 ^ (63 - k) - (q + 1) by omega, Nat.testBit_two_pow_sub_succ hql]
        have : i - (k + 1) < 63 - k := by omega
        simp [this]
  rw [key]
  by_cases h : i < k
  · simp [h, show k ≠ i by omega]
  · by_cases h' : i = k
    · subst h'; simp [h1, hi]
    · simp [h, h', show k ≠ i by omega]
theorem tz_pow : ∀ k, k < 64 → w64 (tabI.getD (((BitVec.twoPow 64 k * 285870213051353865#64) >>> (58#64).toNat).toNat) 0) = (k : Int) := by
  decide +kernel
theorem tzI_low (s : Set64) (k : Nat) (hk : k < 64) (h1 : s.getLsbD k = true) (h2 : ∀ j, j < k → s.getLsbD j = false) : tzI s = (k : Int) := by
  unfold tzI tzAt
  rw [low_and s k hk h1 h2]
  exact tz_pow k hk
theorem min_eq (s : Set64) (h : s ≠ 0#64) : ∃ e : Int, M_sets_Min s = some e ∧ M_ref01_Min s = some e := by
  obtain ⟨k, t, hk, hm, h1, h2⟩ := memb_head s h
  refine ⟨(k : Int), ?_, ?_⟩
  · unfold M_sets_Min M_math_bits_TrailingZeros64
    rw [if_neg (by simpa using h), if_neg (by simpa using h), tzI_low s k hk h1 h2]; rfl
  · unfold M_ref01_Min
    rw [ref01_List_eq, hm]
    simp -implicitDefEqProofs only [Option.bind_eq_bind, Option.bind_some]
    rw [if_neg (by simp; omega)]; rfl

/- Linked. -/
def linkB (l : List T_api_Edge) (a b : Set64) : Bool := l.any fun e => (inS e.Left a && inS e.Right b) || (inS e.Right a && inS e.Left b)
theorem sets_In_eq (a b : Set64) : M_sets_In (a, b) = some (inS a b) := by unfold M_sets_In; rfl
theorem linked_r0 (l : List T_api_Edge) (a b : Set64) : M_graph_Linked.r0 (leadL l, a, b, false) = some (if linkB l a b = true then .ret true else .brk false) := by
  induction l with
  | nil => rw [M_graph_Linked.r0]; rfl
  | cons e l ih =>
    have hc : leadL (e :: l) = (e.Left, e.Right) :: (e.Right, e.Left) :: leadL l := rfl
    rw [hc, M_graph_Linked.r0]
    dsimp only
    have hl : linkB (e :: l) a b = ((inS e.Left a && inS e.Right b) || (inS e.Right a && inS e.Left b) || linkB l a b) := rfl
    rw [hl, sets_In_eq, sets_In_eq]
    simp -implicitDefEqProofs only [Option.bind_eq_bind, Option.bind_some]
    have snd : M_graph_Linked.r0 ((e.Right, e.Left) :: leadL l, a, b, false) = some (if ((inS e.Right a && inS e.Left b) || linkB l a b) = true then .ret true else .brk false) := by
      rw [M_graph_Linked.r0]
      dsimp only
      rw [sets_In_eq, sets_In_eq]
      simp -implicitDefEqProofs only [Option.bind_eq_bind, Option.bind_some]
      cases inS e.Right a <;> cases inS e.Left b <;> simp [ih]
    cases h1 : inS e.Left a <;> cases h2 : inS e.Right b <;> simp [snd]
theorem graph_Linked_eq (l : List T_api_Edge) (a b : Set64) (hl : l.length ≤ 1000000) : M_graph_Linked (l, a, b) = some (linkB l a b) := by
  unfold M_graph_Linked M_graph_leads
  dsimp only
  rw [if_pos (by omega)]
  simp -implicitDefEqProofs only [Option.bind_eq_bind, Option.bind_some]
  rw [linked_r0]
  simp -implicitDefEqProofs only [Option.bind_some]
  cases linkB l a b <;> rfl
theorem ref21_Linked_eq (l : List T_api_Edge) (a b : Set64) (hl : l.length ≤ 1000000) : M_ref21_Linked (l, a, b) = some (linkB l a b) := by
  have key := loop_all l (fun i (_ : Unit) => M_ref21_Linked.l0 (l, a, b, (i : Int))) (fun _ r => some (if linkB r a b = true then .ret true else .brk ()))
    (fun _ => by
      show M_ref21_Linked.l0 _ = _
      rw [M_ref21_Linked.l0, if_neg (dge (by dsimp only; omega))]; rfl)
    (fun i _ h ih => by
      show M_ref21_Linked.l0 _ = _
      have ih := ih ()
      rw [M_ref21_Linked.l0, if_pos (dlt (by dsimp only; omega))]
      dsimp only
      rw [getI_nat h, w64_succ (by omega)]
      simp -implicitDefEqProofs only [Option.bind_eq_bind, Option.bind_some, ref01_In_eq, ih]
      have hb : linkB (l[i] :: l.drop (i + 1)) a b = ((inS l[i].Left a && inS l[i].Right b) || (inS l[i].Right a && inS l[i].Left b) || linkB (l.drop (i + 1)) a b) := rfl
      rw [hb]
      cases inS l[i].Left a <;> cases inS l[i].Right b <;> cases inS l[i].Right a <;> cases inS l[i].Left b <;> simp) ()
  unfold M_ref21_Linked
  dsimp only
  have key' : M_ref21_Linked.l0 (l, a, b, 0) = _ := key
  rw [key']
  simp -implicitDefEqProofs only [Option.bind_eq_bind, Option.bind_some]
  cases linkB l a b <;> rfl

/- Near. -/
def near1 (u v s x : Set64) : Set64 := if u = 0#64 ∨ v = 0#64 ∨ inS u s = false ∨ v &&& (s ||| x) ≠ 0#64 then 0#64 else (M_ref01_Min v).elim 0#64 fun e => ofL [e]
theorem or_and_zero (v s x : Set64) : v &&& (s ||| x) = 0#64 ↔ v &&& s = 0#64 ∧ v &&& x = 0#64 := by
  rw [zero_iff, zero_iff, zero_iff, ← forall_and]
  refine forall_congr' fun n => ?_
  rw [hasI_and', hasI_and', hasI_and', hasI_or']
  cases hasI v n <;> cases hasI s n <;> cases hasI x n <;> simp
theorem ref21_near_eq (u v s x : Set64) : M_ref21_near (u, v, s, x) = some (near1 u v s x) := by
  unfold M_ref21_near near1
  dsimp only
  by_cases h1 : u = 0#64
  · rw [if_pos (by simp [h1]), if_pos (.inl h1)]
  rw [if_neg (by simpa using h1)]
  by_cases h2 : v = 0#64
  · rw [if_pos (by simp [h2]), if_pos (.inr (.inl h2))]
  rw [if_neg (by simpa using h2), ref01_In_eq]
  simp -implicitDefEqProofs only [Option.bind_eq_bind, Option.bind_some]
  cases h3 : inS u s with
  | false => rw [if_neg (by simp), if_pos (.inr (.inr (.inl rfl)))]
  | true =>
    rw [if_pos rfl]
    by_cases h4 : v &&& s = 0#64
    · rw [if_neg (by simp [h4])]
      by_cases h5 : v &&& x = 0#64
      · rw [if_neg (by simp [h5]), if_neg (by simp [h1, h2, (or_and_zero v s x).2 ⟨h4, h5⟩])]
        obtain ⟨e, _, he⟩ := min_eq v h2
        rw [he]
        simp -implicitDefEqProofs only [Option.bind_some, Option.elim]
        rw [ref01_Of_eq _ (by simp)]; rfl
      · rw [if_pos (by simpa using h5), if_pos (.inr (.inr (.inr fun h => h5 ((or_and_zero v s x).1 h).2)))]
    · rw [if_pos (by simpa using h4), if_pos (.inr (.inr (.inr fun h => h4 ((or_and_zero v s x).1 h).1)))]
def nearL (l : List (Set64 × Set64)) (s x o : Set64) : Set64 := l.foldl (fun o p => o ||| near1 p.1 p.2 s x) o
theorem or_zero64 (o : Set64) : o ||| 0#64 = o := by simp
theorem near_r0 (l : List (Set64 × Set64)) (s x : Set64) : ∀ o, M_graph_Near.r0 (l, s, x, o) = some (nearL l s x o) := by
  induction l with
  | nil => intro o; rw [M_graph_Near.r0]; rfl
  | cons p l ih =>
    intro o
    rw [M_graph_Near.r0]
    dsimp only
    have hn : nearL (p :: l) s x o = nearL l s x (o ||| near1 p.1 p.2 s x) := rfl
    rw [hn]
    unfold near1
    by_cases h1 : p.1 = 0#64
    · rw [if_neg (by simp [h1]), if_pos (.inl h1), or_zero64]; exact ih o
    rw [if_pos (by simpa using h1)]
    by_cases h2 : p.2 = 0#64
    · rw [if_neg (by simp [h2]), if_pos (.inr (.inl h2)), or_zero64]; exact ih o
    rw [if_pos (by simpa using h2), sets_In_eq]
    simp -implicitDefEqProofs only [Option.bind_eq_bind, Option.bind_some]
    cases h3 : inS p.1 s with
    | false => rw [if_neg (by simp), if_pos (.inr (.inr (.inl rfl))), or_zero64]; exact ih o
    | true =>
      rw [if_pos rfl]
      by_cases h4 : p.2 &&& (s ||| x) = 0#64
      · obtain ⟨e, he1, he2⟩ := min_eq p.2 h2
        rw [if_pos (by simpa using h4), if_neg (by simp [h1, h2, h4]), he1, he2]
        simp -implicitDefEqProofs only [Option.bind_some, Option.elim]
        rw [sets_Of_eq _ (by simp)]
        exact ih _
      · rw [if_neg (by simpa using h4), if_pos (.inr (.inr (.inr h4))), or_zero64]; exact ih o
theorem graph_Near_eq (l : List T_api_Edge) (s x : Set64) (hl : l.length ≤ 1000000) : M_graph_Near (l, s, x) = some (nearL (leadL l) s x 0#64) := by
  unfold M_graph_Near M_graph_leads
  dsimp only
  rw [if_pos (by omega)]
  simp -implicitDefEqProofs only [Option.bind_eq_bind, Option.bind_some]
  rw [near_r0]; rfl
theorem ref21_Near_eq (l : List T_api_Edge) (s x : Set64) (hl : l.length ≤ 1000000) : M_ref21_Near (l, s, x) = some (nearL (leadL l) s x 0#64) := by
  have key := loop_all l (fun i (o : Set64) => M_ref21_Near.l0 (l, s, x, o, (i : Int))) (fun o r => some (nearL (leadL r) s x o))
    (fun o => by
      show M_ref21_Near.l0 _ = _
      rw [M_ref21_Near.l0, if_neg (dge (by dsimp only; omega))]; rfl)
    (fun i o h ih => by
      show M_ref21_Near.l0 _ = _
      rw [M_ref21_Near.l0, if_pos (dlt (by dsimp only; omega))]
      dsimp only
      rw [getI_nat h, w64_succ (by omega)]
      simp -implicitDefEqProofs only [Option.bind_eq_bind, Option.bind_some, ref21_near_eq]
      exact ih _) 0#64
  unfold M_ref21_Near
  dsimp only
  have key' : M_ref21_Near.l0 (l, s, x, 0#64, 0) = _ := key
  rw [key']; rfl
end Go.Proofs.YtdnnmopncndebaaDoor.G
set_option maxRecDepth 100000
namespace Go.Proofs.YtdnnmopncndebaaDoor.G
theorem aw_law21 : Fn Tryd.prog 5 [] (.bool true) := Fn.run_bool mix okBits_ok (n := 1000) (μ := fun _ => true) (by kernel_rfl)
end Go.Proofs.YtdnnmopncndebaaDoor.G
set_option linter.unusedVariables false
set_option linter.unusedSimpArgs false
set_option maxRecDepth 100000
namespace Go.Proofs.YtdnnmopncndebaaDoor.G
def M_law21_GraphTells (x : List T_api_Edge × Set64 × Set64) : Option (Bool) :=
  if (decide ((x.1.length : Int) > 40)) = true then
    some true
  else
    M_graph_Linked (x.1, x.2.1, x.2.2) >>= fun r2 =>
    M_ref21_Linked (x.1, x.2.1, x.2.2) >>= fun r4 =>
    if r2 = true then
      if r4 = true then
        M_graph_Near (x.1, x.2.1, x.2.2) >>= fun r8 =>
        M_ref21_Near (x.1, x.2.1, x.2.2) >>= fun r10 =>
        if (r8 != r10) = true then
          some false
        else
          M_ref01_Count x.2.1 >>= fun r13 =>
          if (decide (r13 > 6)) = true then
            some true
          else
            M_graph_Connected (x.1, x.2.1) >>= fun r16 =>
            M_ref21_Connected (x.1, x.2.1) >>= fun r18 =>
            if r16 = true then
              if r18 = true then
                some true
              else
                some false
            else
              if r18 = true then
                some false
              else
                some true
      else
        some false
    else
      if r4 = true then
        some false
      else
        M_graph_Near (x.1, x.2.1, x.2.2) >>= fun r24 =>
        M_ref21_Near (x.1, x.2.1, x.2.2) >>= fun r26 =>
        if (r24 != r26) = true then
          some false
        else
          M_ref01_Count x.2.1 >>= fun r29 =>
          if (decide (r29 > 6)) = true then
            some true
          else
            M_graph_Connected (x.1, x.2.1) >>= fun r32 =>
            M_ref21_Connected (x.1, x.2.1) >>= fun r34 =>
            if r32 = true then
              if r34 = true then
                some true
              else
                some false
            else
              if r34 = true then
                some false
              else
                some true
end Go.Proofs.YtdnnmopncndebaaDoor.G
set_option linter.unusedVariables false
set_option linter.unusedSimpArgs false
set_option maxRecDepth 100000
namespace Go.Proofs.YtdnnmopncndebaaDoor.G
theorem lok_4 : (Tryd.f4.body.isSome && !(Tryd.f4.name == "runtime.NumGoroutine") && okL (bodyF Tryd.f4) Tryd.f4.ntmps (bodyF Tryd.f4)) = true := by kernel_rfl
def M_law21_GraphBlocks.l0 (x : List T_api_Edge × Set64 × Bool × List Set64 × Int) : Option (Bool) :=
  if (decide (x.2.2.2.2 < (x.2.2.2.1.length : Int))) = true then
    (getI x.2.2.2.1 x.2.2.2.2) >>= fun (e12 : Set64) =>
    if x.2.2.1 = true then
      M_law21_GraphBlocks.l0 (x.1, x.2.1, true, x.2.2.2.1, (w64 (x.2.2.2.2 + 1)))
    else
      if ((x.2.1 &&& ~~~e12) != 0#64) = true then
        M_graph_Connected (x.1, e12) >>= fun r16 =>
        if r16 = true then
          M_graph_Connected (x.1, (x.2.1 &&& ~~~e12)) >>= fun r19 =>
          if r19 = true then
            M_graph_Linked (x.1, e12, (x.2.1 &&& ~~~e12)) >>= fun r22 =>
            M_law21_GraphBlocks.l0 (x.1, x.2.1, r22, x.2.2.2.1, (w64 (x.2.2.2.2 + 1)))
          else
            M_law21_GraphBlocks.l0 (x.1, x.2.1, false, x.2.2.2.1, (w64 (x.2.2.2.2 + 1)))
        else
          M_law21_GraphBlocks.l0 (x.1, x.2.1, false, x.2.2.2.1, (w64 (x.2.2.2.2 + 1)))
      else
        M_law21_GraphBlocks.l0 (x.1, x.2.1, false, x.2.2.2.1, (w64 (x.2.2.2.2 + 1)))
  else
    some x.2.2.1
  partial_fixpoint
theorem M_law21_GraphBlocks.l0.ws : (∀ (x : List T_api_Edge × Set64 × Bool × List Set64 × Int) (o : Bool), M_law21_GraphBlocks.l0 x = some o → (fun (x : List T_api_Edge × Set64 × Bool × List Set64 × Int) (o : Bool) => ∀ (lo : Option Nat) (c : LCtx) (Q : Exit → LEnv → Prop) (hb : ∀ s : Bool, o = s → Q (.exit 0) ⟨[(0, .v (.slice .foreign (x.1.map T_api_Edge.av))), (1, .v (.w x.2.1)), (5, .v (.bool s))], []⟩), LLoop Tryd.prog 4 lo c 0 (VQ Q) ⟨[(0, .v (.slice .foreign (x.1.map T_api_Edge.av))), (1, .v (.w x.2.1)), (5, .v (.bool x.2.2.1)), (6, .v (.slice .foreign (x.2.2.2.1.map AV.w))), (7, .v (.i64 x.2.2.2.2))], []⟩) x o) := by
  refine M_law21_GraphBlocks.l0.partial_correctness _ ?_
  · intro M_M_law21_GraphBlocks_l0 ih_M_law21_GraphBlocks_l0 x o h
    intro lo c Q hb
    refine LLoop.step mix fn_4 (by kernel_rfl) ?_
    simp -implicitDefEqProofs only [go_sem, Tryd.f4]
    by_cases h11 : (decide (x.2.2.2.2 < (x.2.2.2.1.length : Int))) = true
    · replace h := ite_some h h11
      try simp -implicitDefEqProofs only [go_sem, h11]
      obtain ⟨e12, h13, h⟩ := bind_some' h; replace h13 := getI_some h13; obtain ⟨h13', h13⟩ := h13
      try simp -implicitDefEqProofs only [go_sem, h11, h13, h13']
      by_cases h14 : x.2.2.1 = true
      · replace h := ite_some h h14
        try simp -implicitDefEqProofs only [go_sem, h11, h13, h13', h14]
        exact LLoop.view [] (by (first | rfl | simp -implicitDefEqProofs only [go_sem, h11, h13, h13', h14] <;> rfl)) (ih_M_law21_GraphBlocks_l0 _ _ h lo c Q hb)
      · replace h := ite_none h h14; replace h14 := bfalse h14
        try simp -implicitDefEqProofs only [go_sem, h11, h13, h13', h14]
        by_cases h15 : ((x.2.1 &&& ~~~e12) != 0#64) = true
        · replace h := ite_some h h15
          try simp -implicitDefEqProofs only [go_sem, h11, h13, h13', h14, h15]
          obtain ⟨r16, h17, h⟩ := bind_some' h
          refine .plain _ _ rfl (M_graph_Connected.w (x.1, e12) _ h17) ?_
          try simp -implicitDefEqProofs only [go_sem, h11, h13, h13', h14, h15]
          by_cases h18 : r16 = true
          · replace h := ite_some h h18
            try simp -implicitDefEqProofs only [go_sem, h11, h13, h13', h14, h15, h18]
            obtain ⟨r19, h20, h⟩ := bind_some' h
            refine .plain _ _ rfl (M_graph_Connected.w (x.1, (x.2.1 &&& ~~~e12)) _ h20) ?_
            try simp -implicitDefEqProofs only [go_sem, h11, h13, h13', h14, h15, h18]
            by_cases h21 : r19 = true
            · replace h := ite_some h h21
              try simp -implicitDefEqProofs only [go_sem, h11, h13, h13', h14, h15, h18, h21]
              obtain ⟨r22, h23, h⟩ := bind_some' h
              refine .plain _ _ rfl (M_graph_Linked.w (x.1, e12, (x.2.1 &&& ~~~e12)) _ h23) ?_
              try simp -implicitDefEqProofs only [go_sem, h11, h13, h13', h14, h15, h18, h21]
              exact LLoop.view [] (by (first | rfl | simp -implicitDefEqProofs only [go_sem, h11, h13, h13', h14, h15, h18, h21] <;> rfl)) (ih_M_law21_GraphBlocks_l0 _ _ h lo c Q hb)
            · replace h := ite_none h h21; replace h21 := bfalse h21
              try simp -implicitDefEqProofs only [go_sem, h11, h13, h13', h14, h15, h18, h21]
              exact LLoop.view [] (by (first | rfl | simp -implicitDefEqProofs only [go_sem, h11, h13, h13', h14, h15, h18, h21] <;> rfl)) (ih_M_law21_GraphBlocks_l0 _ _ h lo c Q hb)
          · replace h := ite_none h h18; replace h18 := bfalse h18
            try simp -implicitDefEqProofs only [go_sem, h11, h13, h13', h14, h15, h18]
            exact LLoop.view [] (by (first | rfl | simp -implicitDefEqProofs only [go_sem, h11, h13, h13', h14, h15, h18] <;> rfl)) (ih_M_law21_GraphBlocks_l0 _ _ h lo c Q hb)
        · replace h := ite_none h h15; replace h15 := bfalse h15
          try simp -implicitDefEqProofs only [go_sem, h11, h13, h13', h14, h15]
          exact LLoop.view [] (by (first | rfl | simp -implicitDefEqProofs only [go_sem, h11, h13, h13', h14, h15] <;> rfl)) (ih_M_law21_GraphBlocks_l0 _ _ h lo c Q hb)
    · replace h := ite_none h h11; replace h11 := bfalse h11
      try simp -implicitDefEqProofs only [go_sem, h11]
      injection h with h; subst h
      exact .inr ⟨[], _, by (simp -implicitDefEqProofs only [go_sem, h11] <;> first | done | rfl | trivial), hb _ rfl⟩
theorem M_law21_GraphBlocks.l0.w : type_of% @M_law21_GraphBlocks.l0.ws := @M_law21_GraphBlocks.l0.ws
def M_law21_GraphBlocks (x : List T_api_Edge × Set64) : Option (Bool) :=
  if (decide ((x.1.length : Int) > 40)) = true then
    some true
  else
    M_ref01_Count x.2 >>= fun r2 =>
    if (decide (r2 > 7)) = true then
      some true
    else
      M_ref21_Full x.1 >>= fun r5 =>
      M_ref01_Count x.2 >>= fun r7 =>
      M_ref01_Parts x.2 >>= fun r9 =>
      M_law21_GraphBlocks.l0 (r5, x.2, (r7 == 1), r9, 0) >>= fun (o24 : Bool) =>
      M_graph_Connected (r5, x.2) >>= fun r26 =>
      if r26 = true then
        if o24 = true then
          some true
        else
          some false
      else
        if o24 = true then
          some false
        else
          some true
set_option maxHeartbeats 8000000 in
theorem M_law21_GraphBlocks.w : ∀ (x : List T_api_Edge × Set64) (r : Bool), M_law21_GraphBlocks x = some r → (fun (x : List T_api_Edge × Set64) (r : Bool) => Fn Tryd.prog 4 [.slice .foreign (x.1.map T_api_Edge.av), .w x.2] (.bool r)) x r := by
  intro x r h
  rw [M_law21_GraphBlocks] at h
  try dsimp only
  refine Fn.of_lc mix fn_4 lok_4 (by rfl) (flC (flat_slice _ T_api_Edge.flat _) (flC (.atom _) (flN))) (.atom _) ?_
  simp -implicitDefEqProofs only [go_sem, Tryd.f4]
  by_cases h1 : (decide ((x.1.length : Int) > 40)) = true
  · replace h := ite_some h h1
    try simp -implicitDefEqProofs only [go_sem, h1]
    refine .plain _ _ rfl aw_law21 ?_
    try simp -implicitDefEqProofs only [go_sem, h1]
    injection h with h; subst h
    first | rfl | simp -implicitDefEqProofs only [go_sem, h1] <;> rfl
  · replace h := ite_none h h1; replace h1 := bfalse h1
    try simp -implicitDefEqProofs only [go_sem, h1]
    obtain ⟨r2, h3, h⟩ := bind_some' h
    refine .plain _ _ rfl (M_ref01_Count.w x.2 _ h3) ?_
    try simp -implicitDefEqProofs only [go_sem, h1]
    by_cases h4 : (decide (r2 > 7)) = true
    · replace h := ite_some h h4
      try simp -implicitDefEqProofs only [go_sem, h1, h4]
      refine .plain _ _ rfl aw_law21 ?_
      try simp -implicitDefEqProofs only [go_sem, h1, h4]
      injection h with h; subst h
      first | rfl | simp -implicitDefEqProofs only [go_sem, h1, h4] <;> rfl
    · replace h := ite_none h h4; replace h4 := bfalse h4
      try simp -implicitDefEqProofs only [go_sem, h1, h4]
      obtain ⟨r5, h6, h⟩ := bind_some' h
      refine .plain _ _ rfl (M_ref21_Full.w x.1 _ h6) ?_
      try simp -implicitDefEqProofs only [go_sem, h1, h4]
      obtain ⟨r7, h8, h⟩ := bind_some' h
      refine .plain _ _ rfl (M_ref01_Count.w x.2 _ h8) ?_
      try simp -implicitDefEqProofs only [go_sem, h1, h4]
      obtain ⟨r9, h10, h⟩ := bind_some' h
      refine .plain _ _ rfl (M_ref01_Parts.w x.2 _ h10) ?_
      try simp -implicitDefEqProofs only [go_sem, h1, h4]
      obtain ⟨o24, h25, h⟩ := bind_some' h
      refine LLoop.viewQ (LLoop.view [] (by (first | rfl | simp -implicitDefEqProofs only [go_sem, h1, h4] <;> rfl)) (M_law21_GraphBlocks.l0.w (r5, x.2, (r7 == 1), r9, 0) _ h25 _ _ _ ?_))
      intro s' hs'; subst hs'
      try simp -implicitDefEqProofs only [go_sem, h1, h4]
      obtain ⟨r26, h27, h⟩ := bind_some' h
      refine .plain _ _ rfl (M_graph_Connected.w (r5, x.2) _ h27) ?_
      try simp -implicitDefEqProofs only [go_sem, h1, h4]
      by_cases h28 : r26 = true
      · replace h := ite_some h h28
        try simp -implicitDefEqProofs only [go_sem, h1, h4, h28]
        by_cases h29 : o24 = true
        · replace h := ite_some h h29
          try simp -implicitDefEqProofs only [go_sem, h1, h4, h28, h29]
          refine .plain _ _ rfl aw_law21 ?_
          try simp -implicitDefEqProofs only [go_sem, h1, h4, h28, h29]
          injection h with h; subst h
          first | rfl | simp -implicitDefEqProofs only [go_sem, h1, h4, h28, h29] <;> rfl
        · replace h := ite_none h h29; replace h29 := bfalse h29
          try simp -implicitDefEqProofs only [go_sem, h1, h4, h28, h29]
          injection h with h; subst h
          first | rfl | simp -implicitDefEqProofs only [go_sem, h1, h4, h28, h29] <;> rfl
      · replace h := ite_none h h28; replace h28 := bfalse h28
        try simp -implicitDefEqProofs only [go_sem, h1, h4, h28]
        by_cases h30 : o24 = true
        · replace h := ite_some h h30
          try simp -implicitDefEqProofs only [go_sem, h1, h4, h28, h30]
          injection h with h; subst h
          first | rfl | simp -implicitDefEqProofs only [go_sem, h1, h4, h28, h30] <;> rfl
        · replace h := ite_none h h30; replace h30 := bfalse h30
          try simp -implicitDefEqProofs only [go_sem, h1, h4, h28, h30]
          refine .plain _ _ rfl aw_law21 ?_
          try simp -implicitDefEqProofs only [go_sem, h1, h4, h28, h30]
          injection h with h; subst h
          first | rfl | simp -implicitDefEqProofs only [go_sem, h1, h4, h28, h30] <;> rfl
end Go.Proofs.YtdnnmopncndebaaDoor.G
set_option linter.unusedVariables false
set_option linter.unusedSimpArgs false
namespace Go.Proofs.YtdnnmopncndebaaDoor.G
open Classical

/-- Connected sets: of one member; two that are apart and linked. -/
inductive Conn (l : List T_api_Edge) : Set64 → Prop
  | one (s : Set64) (h : (memb s).length = 1) : Conn l s
  | join (a b : Set64) (ha : Conn l a) (hb : Conn l b) (h : a &&& b = 0#64) (hl : linkB l a b = true) : Conn l (a ||| b)
theorem nz_has {s : Set64} (h : s ≠ 0#64) : ∃ n, hasI s n = true := by
  apply Classical.byContradiction
  intro hn
  exact h ((zero_iff s).2 fun n => by
    cases hb : hasI s n with
    | false => rfl
    | true => exact absurd ⟨n, hb⟩ hn)
theorem has_nz {s : Set64} {n : Int} (h : hasI s n = true) : s ≠ 0#64 := by
  rintro rfl; rw [hasI_zero] at h; cases h
theorem Conn.nz {l : List T_api_Edge} {s : Set64} (h : Conn l s) : s ≠ 0#64 := by
  induction h with
  | one s h =>
    obtain ⟨a, t, ha⟩ := List.exists_cons_of_ne_nil (show memb s ≠ [] by intro e; rw [e] at h; cases h)
    exact has_nz ((memb_mem s a).1 (by rw [ha]; simp))
  | join a b ha hb h hl ih1 ih2 =>
    obtain ⟨n, hn⟩ := nz_has ih1
    exact has_nz (n := n) (by rw [hasI_or', hn]; rfl)
theorem apart_iff (a b : Set64) : a &&& b = 0#64 ↔ ∀ n, hasI a n = true → hasI b n = false := by
  rw [zero_iff]
  refine forall_congr' fun n => ?_
  rw [hasI_and']
  cases hasI a n <;> cases hasI b n <;> simp
theorem inS_mono {a b c : Set64} (h : inS a b = true) (k : inS b c = true) : inS a c = true := by
  rw [inS_hasI] at *
  exact fun n hn => k n (h n hn)
theorem linkB_mono {l : List T_api_Edge} {a b c d : Set64} (h : linkB l a b = true) (h1 : inS a c = true) (h2 : inS b d = true) : linkB l c d = true := by
  unfold linkB at h ⊢
  rw [List.any_eq_true] at h ⊢
  obtain ⟨e, he, h⟩ := h
  refine ⟨e, he, ?_⟩
  rw [Bool.or_eq_true, Bool.and_eq_true, Bool.and_eq_true] at h ⊢
  rcases h with ⟨h3, h4⟩ | ⟨h3, h4⟩
  · exact .inl ⟨inS_mono h3 h1, inS_mono h4 h2⟩
  · exact .inr ⟨inS_mono h3 h1, inS_mono h4 h2⟩
theorem linkB_comm (l : List T_api_Edge) (a b : Set64) : linkB l a b = linkB l b a := by
  unfold linkB
  congr 1
  funext e
  cases inS e.Left a <;> cases inS e.Right b <;> cases inS e.Right a <;> cases inS e.Left b <;> rfl
/-- Blocks of a set. -/
structure Blk (l : List T_api_Edge) (s : Set64) (bs : List Set64) : Prop where
  conn : ∀ b ∈ bs, Conn l b
  apart : bs.Pairwise fun a b => a &&& b = 0#64
  all : ∀ n, hasI s n = true ↔ ∃ b ∈ bs, hasI b n = true
theorem Blk.perm {l : List T_api_Edge} {s : Set64} {bs cs : List Set64} (h : Blk l s bs) (p : bs.Perm cs) : Blk l s cs where
  conn := fun b hb => h.conn b (p.mem_iff.2 hb)
  apart := (p.pairwise_iff (fun {a b} h => by rw [BitVec.and_comm]; exact h)).1 h.apart
  all := fun n => (h.all n).trans ⟨fun ⟨b, h1, h2⟩ => ⟨b, p.mem_iff.1 h1, h2⟩, fun ⟨b, h1, h2⟩ => ⟨b, p.mem_iff.2 h1, h2⟩⟩
theorem Blk.merge {l : List T_api_Edge} {s a b : Set64} {r : List Set64} (h : Blk l s (a :: b :: r)) (hl : linkB l b a = true) : Blk l s ((a ||| b) :: r) where
  conn := fun c hc => by
    rcases List.mem_cons.1 hc with rfl | hc
    · exact .join a b (h.conn a (by simp)) (h.conn b (by simp)) ((List.pairwise_cons.1 h.apart).1 b (by simp)) (by rw [linkB_comm]; exact hl)
    · exact h.conn c (by simp [hc])
  apart := by
    obtain ⟨h1, h2⟩ := List.pairwise_cons.1 h.apart
    obtain ⟨h3, h4⟩ := List.pairwise_cons.1 h2
    refine List.pairwise_cons.2 ⟨fun c hc => ?_, h4⟩
    have e1 := (apart_iff _ _).1 (h1 c (by simp [hc]))
    have e2 := (apart_iff _ _).1 (h3 c hc)
    refine (apart_iff _ _).2 fun n hn => ?_
    rw [hasI_or', Bool.or_eq_true] at hn
    rcases hn with hn | hn
    · exact e1 n hn
    · exact e2 n hn
  all := fun n => by
    rw [h.all n]
    constructor
    · rintro ⟨c, hc, hn⟩
      rcases List.mem_cons.1 hc with rfl | hc
      · exact ⟨_, List.mem_cons_self, by rw [hasI_or', hn]; rfl⟩
      · rcases List.mem_cons.1 hc with rfl | hc
        · exact ⟨_, List.mem_cons_self, by rw [hasI_or', hn, Bool.or_true]⟩
        · exact ⟨c, List.mem_cons_of_mem _ hc, hn⟩
    · rintro ⟨c, hc, hn⟩
      rcases List.mem_cons.1 hc with rfl | hc
      · rw [hasI_or', Bool.or_eq_true] at hn
        rcases hn with hn | hn
        · exact ⟨a, by simp, hn⟩
        · exact ⟨b, by simp, hn⟩
      · exact ⟨c, by simp [hc], hn⟩
/-- No two blocks are linked: each connected set lies in one of them. -/
theorem Blk.stuck {l : List T_api_Edge} {s : Set64} {bs : List Set64} (h : Blk l s bs) (hno : ∀ a ∈ bs, ∀ b ∈ bs, a ≠ b → linkB l a b = false) {x : Set64} (hx : Conn l x) (hs : inS x s = true) : ∃ b ∈ bs, inS x b = true := by
  induction hx with
  | one x h1 =>
    have hne : memb x ≠ [] := by intro e; rw [e] at h1; cases h1
    obtain ⟨e, t, he⟩ := List.exists_cons_of_ne_nil hne
    have ht : t = [] := by rw [he] at h1; simpa using h1
    subst ht
    have hxe := (memb_mem x e).1 (by rw [he]; simp)
    obtain ⟨b, hb, hbe⟩ := (h.all e).1 ((inS_hasI _ _).1 hs e hxe)
    refine ⟨b, hb, (inS_hasI _ _).2 fun n hn => ?_⟩
    have := (memb_mem x n).2 hn
    rw [he, List.mem_singleton] at this
    rw [this]; exact hbe
  | join a b ha hb hab hl ih1 ih2 =>
    have h1 : inS a s = true := (inS_hasI _ _).2 fun n hn => (inS_hasI _ _).1 hs n (by rw [hasI_or', hn]; rfl)
    have h2 : inS b s = true := (inS_hasI _ _).2 fun n hn => (inS_hasI _ _).1 hs n (by rw [hasI_or', hn, Bool.or_true])
    obtain ⟨c, hc, hac⟩ := ih1 h1
    obtain ⟨d, hd, hbd⟩ := ih2 h2
    by_cases hcd : c = d
    · subst hcd
      refine ⟨c, hc, (inS_hasI _ _).2 fun n hn => ?_⟩
      rw [hasI_or', Bool.or_eq_true] at hn
      rcases hn with hn | hn
      · exact (inS_hasI _ _).1 hac n hn
      · exact (inS_hasI _ _).1 hbd n hn
    · have := hno c hc d hd hcd
      rw [linkB_mono hl hac hbd] at this; cases this
theorem Blk.stuck_no {l : List T_api_Edge} {s : Set64} {bs : List Set64} (h : Blk l s bs) (hno : ∀ a ∈ bs, ∀ b ∈ bs, a ≠ b → linkB l a b = false) (h2 : 2 ≤ bs.length) : ¬ Conn l s := by
  intro hc
  obtain ⟨b, hb, hsb⟩ := h.stuck hno hc ((inS_hasI _ _).2 fun n hn => hn)
  have : ∃ a ∈ bs, a ≠ b := by
    match bs, h2 with
    | x :: y :: r, _ =>
      by_cases hx : x = b
      · refine ⟨y, by simp, ?_⟩
        rintro rfl
        subst hx
        have := (List.pairwise_cons.1 h.apart).1 x (by simp)
        obtain ⟨n, hn⟩ := nz_has (h.conn x (by simp)).nz
        have := (apart_iff _ _).1 this n hn
        rw [hn] at this; cases this
      · exact ⟨x, by simp, hx⟩
  obtain ⟨a, ha, hab⟩ := this
  obtain ⟨n, hn⟩ := nz_has (h.conn a ha).nz
  have h3 := (inS_hasI _ _).1 hsb n ((h.all n).2 ⟨a, ha, hn⟩)
  have key : a &&& b = 0#64 ∨ b &&& a = 0#64 := by
    have hp := h.apart
    obtain ⟨i, hi, rfl⟩ := List.getElem_of_mem ha
    obtain ⟨j, hj, rfl⟩ := List.getElem_of_mem hb
    rcases Nat.lt_trichotomy i j with h4 | h4 | h4
    · exact .inl (List.pairwise_iff_getElem.1 hp i j hi hj h4)
    · subst h4; exact absurd rfl hab
    · exact .inr (List.pairwise_iff_getElem.1 hp j i hj hi h4)
  rcases key with k | k
  · rw [(apart_iff _ _).1 k n hn] at h3; cases h3
  · rw [(apart_iff _ _).1 k n h3] at hn; cases hn

/- The program. -/
theorem cut_mid {A B C : List Set64} {x y v : Set64} : (A ++ x :: (B ++ y :: C)).set A.length v = A ++ v :: (B ++ y :: C) ∧ sliceI (A ++ v :: (B ++ y :: C)) 0 ((A.length + 1 + B.length : Nat) : Int) = A ++ v :: B ∧ sliceI (A ++ v :: (B ++ y :: C)) ((A.length + 1 + B.length + 1 : Nat) : Int) ((A ++ v :: (B ++ y :: C)).length : Int) = C := by
  refine ⟨by simp, ?_, ?_⟩
  · unfold sliceI
    rw [Int.toNat_natCast, show (0 : Int).toNat = 0 from rfl, List.drop_zero]
    have : A ++ v :: (B ++ y :: C) = (A ++ v :: B) ++ (y :: C) := by simp
    rw [this, List.take_left' (by simp; omega)]
  · unfold sliceI
    rw [Int.toNat_natCast, Int.toNat_natCast, List.take_length]
    have : A ++ v :: (B ++ y :: C) = (A ++ v :: (B ++ [y])) ++ C := by simp
    rw [this, List.drop_left' (by simp; omega)]
theorem split_at (bs : List Set64) (k i : Nat) (hk : k < i) (hi : i < bs.length) : ∃ A B C, bs = A ++ bs[k] :: (B ++ bs[i] :: C) ∧ A.length = k ∧ A.length + 1 + B.length = i := by
  refine ⟨bs.take k, (bs.drop (k + 1)).take (i - (k + 1)), bs.drop (i + 1), ?_, by simp; omega, by simp; omega⟩
  conv => lhs; rw [← List.take_append_drop k bs, List.drop_eq_getElem_cons (show k < bs.length by omega), ← List.take_append_drop (i - (k + 1)) (bs.drop (k + 1)), List.drop_drop, show k + 1 + (i - (k + 1)) = i by omega, List.drop_eq_getElem_cons hi]
theorem conn_l3 (l : List T_api_Edge) (hl : l.length ≤ 1000000) (bs : List Set64) (hb : bs.length ≤ 100) (i : Nat) (hi : i < bs.length) (n m : Int) : ∀ d k, i - k = d → k ≤ i →
    (M_graph_Connected.l3 (l, bs, (i : Int), n, m, (i : Int), (k : Int)) = some (.ret bs) ∧ ∀ j (h : j < i), k ≤ j → linkB l bs[i] bs[j] = false) ∨
    ∃ A B C x y, bs = A ++ x :: (B ++ y :: C) ∧ linkB l y x = true ∧ M_graph_Connected.l3 (l, bs, (i : Int), n, m, (i : Int), (k : Int)) = some (.brk ((A ++ (x ||| y) :: B) ++ C)) := by
  intro d
  induction d with
  | zero =>
    intro k h1 h2
    left
    rw [M_graph_Connected.l3, if_neg (dge (by dsimp only; omega))]
    exact ⟨rfl, fun j h3 h4 => by omega⟩
  | succ d ih =>
    intro k h1 h2
    have hk : k < i := by omega
    rw [M_graph_Connected.l3, if_pos (dlt (by dsimp only; omega))]
    dsimp only
    rw [getI_nat hi, getI_nat (show k < bs.length by omega), w64_succ (by omega), w64_succ (by omega)]
    simp -implicitDefEqProofs only [Option.bind_eq_bind, Option.bind_some]
    rw [graph_Linked_eq _ _ _ hl]
    simp -implicitDefEqProofs only [Option.bind_some]
    by_cases hlk : linkB l bs[i] bs[k] = true
    · right
      obtain ⟨A, B, C, hbs, hA, hB⟩ := split_at bs k i hk hi
      refine ⟨A, B, C, bs[k], bs[i], hbs, hlk, ?_⟩
      rw [if_pos hlk]
      have hset : bs.set (k : Int).toNat (bs[k] ||| bs[i]) = A ++ (bs[k] ||| bs[i]) :: (B ++ bs[i] :: C) := by
        generalize bs[k] = x at *
        generalize bs[i] = y at *
        subst hbs
        rw [Int.toNat_natCast, ← hA]
        exact (cut_mid (v := x ||| y)).1
      rw [hset]
      obtain ⟨_, c2, c3⟩ := cut_mid (A := A) (B := B) (C := C) (x := bs[k]) (y := bs[i]) (v := bs[k] ||| bs[i])
      rw [hB] at c2 c3
      have hlen : (A ++ (bs[k] ||| bs[i]) :: (B ++ bs[i] :: C)).length = bs.length := by rw [← hset, List.length_set]
      rw [hlen] at c3
      rw [hlen, if_pos (by omega), if_pos (by omega), if_pos (by omega), c2, c3, room_of]
      · rfl
      · have : bs.length = A.length + (B.length + (C.length + 1) + 1) := by
          have := congrArg List.length hbs
          simpa using this
        simp; omega
    · rw [if_neg hlk]
      rcases ih (k + 1) (by omega) (by omega) with ⟨h3, h4⟩ | h3
      · left
        refine ⟨h3, fun j h5 h6 => ?_⟩
        by_cases hjk : j = k
        · subst hjk; simpa using hlk
        · exact h4 j h5 (by omega)
      · exact .inr h3
theorem conn_l2 (l : List T_api_Edge) (hl : l.length ≤ 1000000) (bs : List Set64) (hb : bs.length ≤ 100) : ∀ d i, bs.length - i = d → i ≤ bs.length →
    (M_graph_Connected.l2 (l, bs, (bs.length : Int), (i : Int)) = some (.ret bs) ∧ ∀ p j (hp : p < bs.length) (hj : j < p), i ≤ p → linkB l bs[p] bs[j] = false) ∨
    ∃ A B C x y, bs = A ++ x :: (B ++ y :: C) ∧ linkB l y x = true ∧ M_graph_Connected.l2 (l, bs, (bs.length : Int), (i : Int)) = some (.brk ((A ++ (x ||| y) :: B) ++ C)) := by
  intro d
  induction d with
  | zero =>
    intro i h1 h2
    left
    rw [M_graph_Connected.l2, if_neg (dge (by dsimp only; omega))]
    exact ⟨rfl, fun p j hp hj h3 => by omega⟩
  | succ d ih =>
    intro i h1 h2
    have hi : i < bs.length := by omega
    rw [M_graph_Connected.l2, if_pos (dlt (by dsimp only; omega))]
    dsimp only
    have h3 := conn_l3 l hl bs hb i hi (bs.length : Int) (i : Int) i 0 (by omega) (by omega)
    rw [show ((0 : Nat) : Int) = 0 from rfl] at h3
    rcases h3 with ⟨h3, h4⟩ | ⟨A, B, C, x, y, h4, h5, h3⟩
    · rw [h3, w64_succ (by omega)]
      simp -implicitDefEqProofs only [Option.bind_eq_bind, Option.bind_some]
      rcases ih (i + 1) (by omega) (by omega) with ⟨h5, h6⟩ | h5
      · left
        refine ⟨h5, fun p j hp hj h7 => ?_⟩
        by_cases hpi : p = i
        · subst hpi; exact h4 j hj (by omega)
        · exact h6 p j hp hj (by omega)
      · exact .inr h5
    · right
      rw [h3]
      exact ⟨A, B, C, x, y, h4, h5, rfl⟩
theorem conn_l1 (l : List T_api_Edge) (hl : l.length ≤ 1000000) (s : Set64) : ∀ d (bs : List Set64), bs.length = d → bs.length ≤ 100 → Blk l s bs →
    (∃ cs, M_graph_Connected.l1 (l, bs) = some (.brk cs) ∧ ((cs.length : Int) == 1) = decide (Conn l s)) ∨ (M_graph_Connected.l1 (l, bs) = some (.ret false) ∧ ¬ Conn l s) := by
  intro d
  induction d with
  | zero =>
    intro bs h1 h2 h
    have : bs = [] := List.length_eq_zero_iff.1 h1
    subst this
    left
    rw [M_graph_Connected.l1, if_neg (by simp)]
    refine ⟨_, rfl, ?_⟩
    have : ¬ Conn l s := fun hc => by
      obtain ⟨n, hn⟩ := nz_has hc.nz
      obtain ⟨b, hb, _⟩ := (h.all n).1 hn
      cases hb
    rw [decide_eq_false this]; rfl
  | succ d ih =>
    intro bs h1 h2 h
    by_cases hlen : bs.length = 1
    · left
      rw [M_graph_Connected.l1, if_neg (by simp [hlen])]
      refine ⟨_, rfl, ?_⟩
      obtain ⟨b, rfl⟩ := List.length_eq_one_iff.1 hlen
      have e : s = b := set_ext fun n => by
        rw [Bool.eq_iff_iff, h.all n]; simp
      rw [e, decide_eq_true (h.conn b (by simp))]; rfl
    · rw [M_graph_Connected.l1, if_pos (by simp; omega)]
      dsimp only
      have h3 := conn_l2 l hl bs h2 bs.length 0 (by omega) (by omega)
      rw [show ((0 : Nat) : Int) = 0 from rfl] at h3
      rcases h3 with ⟨h3, h4⟩ | ⟨A, B, C, x, y, h4, h5, h3⟩
      · right
        rw [h3]
        refine ⟨rfl, h.stuck_no (fun a ha b hb hab => ?_) (by omega)⟩
        obtain ⟨i, hi, rfl⟩ := List.getElem_of_mem ha
        obtain ⟨j, hj, rfl⟩ := List.getElem_of_mem hb
        rcases Nat.lt_trichotomy i j with h6 | h6 | h6
        · rw [linkB_comm]; exact h4 j i hj h6 (by omega)
        · subst h6; exact absurd rfl hab
        · exact h4 i j hi h6 (by omega)
      · rw [h3]
        simp -implicitDefEqProofs only [Option.bind_eq_bind, Option.bind_some]
        have p1 : bs.Perm (x :: y :: (A ++ (B ++ C))) := by
          rw [h4]
          refine List.perm_middle.trans (List.Perm.cons _ ?_)
          rw [← List.append_assoc]
          refine List.perm_middle.trans ?_
          rw [List.append_assoc]
        have p2 : ((x ||| y) :: (A ++ (B ++ C))).Perm ((A ++ (x ||| y) :: B) ++ C) := by
          rw [List.append_assoc]; exact List.perm_middle.symm
        have hl2 : bs.length = A.length + (B.length + (C.length + 1) + 1) := by
          have := congrArg List.length h4
          simpa using this
        exact ih _ (by simp; omega) (by simp; omega) (((h.perm p1).merge h5).perm p2)
/-- Edges with both sides. -/
def fullE (e : T_api_Edge) : Bool := e.Left != 0#64 && e.Right != 0#64
theorem graph_full_eq (l : List T_api_Edge) (hl : l.length ≤ 100000) : M_graph_full l = some (l.filter fullE) := by
  have key := loop_inv l (fun i (acc : List T_api_Edge) => acc.length ≤ i) (fun i acc => M_graph_full.l0 (acc, l, (l.length : Int), (i : Int))) (fun acc r => some (acc ++ r.filter fullE))
    (fun acc _ => by
      show M_graph_full.l0 _ = _
      rw [M_graph_full.l0, if_neg (dge (by dsimp only; omega))]; simp)
    (fun i acc h hacc ih => by
      show M_graph_full.l0 _ = _
      rw [M_graph_full.l0, if_pos (dlt (by dsimp only; omega))]
      dsimp only
      rw [getI_nat h, w64_succ (by omega)]
      simp -implicitDefEqProofs only [Option.bind_eq_bind, Option.bind_some]
      cases h1 : l[i].Left != 0#64 with
      | false =>
        rw [if_neg (by simp), List.filter_cons_of_neg (by simp [fullE, h1])]
        exact ih acc (by omega)
      | true =>
        rw [if_pos rfl]
        cases h2 : l[i].Right != 0#64 with
        | false =>
          rw [if_neg (by simp), List.filter_cons_of_neg (by simp [fullE, h2])]
          exact ih acc (by omega)
        | true =>
          rw [if_pos rfl, room_of (by simp only [List.length_cons, List.length_nil]; omega), List.filter_cons_of_pos (by simp [fullE, h1, h2])]
          simp -implicitDefEqProofs only [Option.bind_some]
          have := ih (acc ++ [l[i]]) (by rw [List.length_append]; simp only [List.length_cons, List.length_nil]; omega)
          rw [this, List.append_assoc]; rfl) 0 [] (by omega) (by simp)
  unfold M_graph_full
  have key' : M_graph_full.l0 ([], l, (l.length : Int), 0) = _ := key
  rw [key']; rfl
theorem ref21_Full_eq (l : List T_api_Edge) (hl : l.length ≤ 100000) : M_ref21_Full l = some (l.filter fullE) := by
  have key := loop_inv l (fun i (acc : List T_api_Edge) => acc.length ≤ i) (fun i acc => M_ref21_Full.l0 (l, acc, (i : Int))) (fun acc r => some (acc ++ r.filter fullE))
    (fun acc _ => by
      show M_ref21_Full.l0 _ = _
      rw [M_ref21_Full.l0, if_neg (dge (by dsimp only; omega))]; simp)
    (fun i acc h hacc ih => by
      show M_ref21_Full.l0 _ = _
      rw [M_ref21_Full.l0, if_pos (dlt (by dsimp only; omega))]
      dsimp only
      rw [getI_nat h, w64_succ (by omega)]
      simp -implicitDefEqProofs only [Option.bind_eq_bind, Option.bind_some]
      cases h1 : l[i].Left != 0#64 with
      | false =>
        rw [if_neg (by simp), List.filter_cons_of_neg (by simp [fullE, h1])]
        exact ih acc (by omega)
      | true =>
        rw [if_pos rfl]
        cases h2 : l[i].Right != 0#64 with
        | false =>
          rw [if_neg (by simp), List.filter_cons_of_neg (by simp [fullE, h2])]
          exact ih acc (by omega)
        | true =>
          rw [if_pos rfl, room_of (by simp only [List.length_cons, List.length_nil]; omega), List.filter_cons_of_pos (by simp [fullE, h1, h2])]
          simp -implicitDefEqProofs only [Option.bind_some]
          have := ih (acc ++ [l[i]]) (by rw [List.length_append]; simp only [List.length_cons, List.length_nil]; omega)
          rw [this, List.append_assoc]; rfl) 0 [] (by omega) (by simp)
  unfold M_ref21_Full
  have key' : M_ref21_Full.l0 (l, [], 0) = _ := key
  rw [key']; rfl
theorem graph_Connected_eq (l : List T_api_Edge) (s : Set64) (hl : l.length ≤ 100000) : M_graph_Connected (l, s) = some (decide (Conn (l.filter fullE) s)) := by
  have hml := memb_le s
  have key := loop_inv (memb s) (fun i (acc : List Set64) => acc = ((memb s).take i).map fun e => ofL [e]) (fun i acc => M_graph_Connected.l0 (l.filter fullE, acc, memb s, ((memb s).length : Int), (i : Int))) (fun acc r => some (acc ++ r.map fun e => ofL [e]))
    (fun acc _ => by
      show M_graph_Connected.l0 _ = _
      rw [M_graph_Connected.l0, if_neg (dge (by dsimp only; omega))]; simp)
    (fun i acc h hacc ih => by
      show M_graph_Connected.l0 _ = _
      have hal : acc.length ≤ i := by rw [hacc, List.length_map, List.length_take]; omega
      rw [M_graph_Connected.l0, if_pos (dlt (by dsimp only; omega))]
      dsimp only
      rw [getI_nat h, w64_succ (by omega)]
      simp -implicitDefEqProofs only [Option.bind_eq_bind, Option.bind_some]
      rw [sets_Of_eq _ (by simp)]
      simp -implicitDefEqProofs only [Option.bind_some]
      rw [room_of (by simp only [List.length_cons, List.length_nil]; omega)]
      simp -implicitDefEqProofs only [Option.bind_some]
      have := ih (acc ++ [ofL [(memb s)[i]]]) (by rw [List.take_succ_eq_append_getElem h, List.map_append, hacc]; rfl)
      rw [this, List.map_cons, List.append_assoc]; rfl) 0 [] (by omega) (by simp)
  rw [List.drop_zero, List.nil_append] at key
  have key' : M_graph_Connected.l0 (l.filter fullE, [], memb s, ((memb s).length : Int), 0) = _ := key
  have hof : ∀ e, ofL [e] = bitI e := fun e => by rw [ofL_cons, ofL_nil]; simp
  have hblk : Blk (l.filter fullE) s ((memb s).map fun e => ofL [e]) := by
    refine ⟨fun b hb => ?_, ?_, fun n => ?_⟩
    · obtain ⟨e, he, rfl⟩ := List.mem_map.1 hb
      have hr := memb_range s e he
      refine .one _ ?_
      have hs := memb_sorted (ofL [e])
      have hmm : ∀ n, n ∈ memb (ofL [e]) ↔ n = e := fun n => by
        rw [memb_mem, hof, hasI_bit, Bool.and_eq_true, decide_eq_true_eq, decide_eq_true_eq]
        constructor
        · rintro ⟨_, rfl⟩; rfl
        · rintro rfl; exact ⟨hr, rfl⟩
      generalize memb (ofL [e]) = m at hs hmm
      match m with
      | [] => have := (hmm e).2 rfl; cases this
      | [a] => rfl
      | a :: b :: t =>
        have h1 := (hmm a).1 (by simp)
        have h2 := (hmm b).1 (by simp)
        have := (List.pairwise_cons.1 hs).1 b (by simp)
        omega
    · rw [List.pairwise_map]
      refine (memb_sorted s).imp_of_mem fun {a b} ha hb h => ?_
      rw [hof, hof, apart_iff]
      intro n hn
      rw [hasI_bit, Bool.and_eq_true, decide_eq_true_eq] at hn
      obtain ⟨_, hn2⟩ := hn
      have hn2 := of_decide_eq_true hn2
      subst hn2
      rw [hasI_bit, decide_eq_false (show ¬ b = a by omega), Bool.and_false]
    · rw [← memb_mem]
      constructor
      · intro hn
        refine ⟨_, List.mem_map.2 ⟨n, hn, rfl⟩, ?_⟩
        have := memb_range s n hn
        rw [hof, hasI_bit]; simp [this]
      · rintro ⟨b, hb, hbn⟩
        obtain ⟨e, he, rfl⟩ := List.mem_map.1 hb
        rw [hof, hasI_bit, Bool.and_eq_true, decide_eq_true_eq, decide_eq_true_eq] at hbn
        rw [← hbn.2]; exact he
  have hfl : (l.filter fullE).length ≤ 1000000 := Nat.le_trans (List.length_filter_le _ _) (by omega)
  have fin := conn_l1 (l.filter fullE) hfl s _ _ rfl (by rw [List.length_map]; omega) hblk
  unfold M_graph_Connected
  dsimp only
  have hsl : M_sets_List s = some (memb s) := by
    have key : ∀ (l acc : List Int), acc.length + l.length ≤ 1000000 → M_sets_List.r0 (l, acc) = some (acc ++ l) := by
      intro l
      induction l with
      | nil => intro acc _; rw [M_sets_List.r0]; simp
      | cons x l ih =>
        intro acc h
        rw [M_sets_List.r0]
        dsimp only
        simp only [List.length_cons] at h
        rw [room_of (by simp only [List.length_cons, List.length_nil]; omega)]
        simp only [Option.bind_eq_bind, Option.bind_some]
        rw [ih _ (by simp; omega)]
        simp
    unfold M_sets_List M_sets_members
    simp only [Option.bind_eq_bind, Option.bind_some]
    rw [key _ _ (by simp; omega)]; rfl
  rw [graph_full_eq l hl, hsl]
  simp -implicitDefEqProofs only [Option.bind_eq_bind, Option.bind_some]
  rw [key']
  simp -implicitDefEqProofs only [Option.bind_some]
  rcases fin with ⟨cs, h1, h2⟩ | ⟨h1, h2⟩
  · rw [h1, ← h2]; rfl
  · rw [h1, decide_eq_false h2]; rfl
end Go.Proofs.YtdnnmopncndebaaDoor.G
set_option linter.unusedVariables false
set_option linter.unusedSimpArgs false
namespace Go.Proofs.YtdnnmopncndebaaDoor.G
open Classical

theorem ex_step {n : Nat} {Q : Nat → Prop} : (∃ j, n ≤ j ∧ Q j) ↔ Q n ∨ ∃ j, n + 1 ≤ j ∧ Q j := by
  constructor
  · rintro ⟨j, h1, h2⟩
    by_cases h : j = n
    · subst h; exact .inl h2
    · exact .inr ⟨j, by omega, h2⟩
  · rintro (h | ⟨j, h1, h2⟩)
    · exact ⟨n, Nat.le_refl _, h⟩
    · exact ⟨j, by omega, h2⟩
theorem dec_yes {n : Nat} {Q : Nat → Prop} {y : Bool} (h : Q n) : (y || decide (∃ j, n ≤ j ∧ Q j)) = true := by
  rw [decide_eq_true (ex_step.2 (.inl h)), Bool.or_true]
theorem dec_no {n : Nat} {Q : Nat → Prop} {y : Bool} (h : ¬ Q n) : (y || decide (∃ j, n ≤ j ∧ Q j)) = (y || decide (∃ j, n + 1 ≤ j ∧ Q j)) := by
  congr 1
  exact decide_eq_decide.2 (ex_step.trans ⟨fun k => k.resolve_left h, .inr⟩)
section
variable (l : List T_api_Edge) (P : List Set64)
noncomputable def isL (i : Nat) : List Bool := (P.take i).map fun p => decide (Conn l p)
theorem isL_len (i : Nat) (h : i ≤ P.length) : (isL l P i).length = i := by unfold isL; rw [List.length_map, List.length_take]; omega
theorem isL_get (i j : Nat) (h : i ≤ P.length) (hj : j < i) : getI (isL l P i) (j : Int) = some (decide (Conn l (P[j]'(by omega)))) := by
  rw [getI_nat (by rw [isL_len l P i h]; exact hj)]
  congr 1
  unfold isL
  rw [List.getElem_map, List.getElem_take]
def Q2 (i k : Nat) (rest : Set64) (hi : i ≤ P.length) (hk : k < P.length) (j : Nat) : Prop := ∃ h : j < i, P[j] = rest ∧ Conn l P[j] ∧ linkB l P[k] rest = true
theorem all_l2 (hl : l.length ≤ 1000000) (i k : Nat) (rest : Set64) (hi : i ≤ P.length) (hk : k < P.length) (hP : P.length ≤ 1000) : ∀ d n (yes : Bool), i - n = d → n ≤ i →
    M_ref21_All.l2 (l, P, isL l P i, (i : Int), yes, (k : Int), rest, (n : Int)) = some (yes || decide (∃ j, n ≤ j ∧ Q2 l P i k rest hi hk j)) := by
  intro d
  induction d with
  | zero =>
    intro n yes h1 h2
    rw [M_ref21_All.l2, if_neg (dge (by dsimp only; omega))]
    rw [decide_eq_false (by rintro ⟨j, h3, h4, _⟩; omega), Bool.or_false]
  | succ d ih =>
    intro n yes h1 h2
    have hn : n < i := by omega
    rw [M_ref21_All.l2, if_pos (dlt (by dsimp only; omega))]
    dsimp only
    rw [getI_nat (show n < P.length by omega), isL_get l P i n hi hn, getI_nat hk, w64_succ (by omega)]
    simp -implicitDefEqProofs only [Option.bind_eq_bind, Option.bind_some]
    rw [ref21_Linked_eq _ _ _ hl]
    simp -implicitDefEqProofs only [Option.bind_some]
    by_cases a1 : P[n] = rest
    · rw [if_pos (by simp [a1])]
      by_cases a2 : Conn l P[n]
      · rw [if_pos (decide_eq_true a2)]
        by_cases a3 : linkB l P[k] rest = true
        · rw [if_pos a3, ih (n + 1) true (by omega) (by omega), dec_yes (n := n) ⟨hn, a1, a2, a3⟩]; rfl
        · rw [if_neg a3, ih (n + 1) yes (by omega) (by omega), dec_no (n := n) (by rintro ⟨_, _, _, h⟩; exact a3 h)]
      · rw [if_neg (by simpa using a2), ih (n + 1) yes (by omega) (by omega), dec_no (n := n) (by rintro ⟨_, _, h, _⟩; exact a2 h)]
    · rw [if_neg (by simpa using a1), ih (n + 1) yes (by omega) (by omega), dec_no (n := n) (by rintro ⟨_, h, _, _⟩; exact a1 h)]
def Q1 (i : Nat) (hi : i < P.length) (k : Nat) : Prop := ∃ h : k < i, Conn l (P[k]'(by omega)) ∧ inS (P[k]'(by omega)) P[i] = true ∧ ∃ j, 0 ≤ j ∧ Q2 l P i k (P[i] &&& ~~~(P[k]'(by omega))) (by omega) (by omega) j
theorem all_l1 (hl : l.length ≤ 1000000) (i : Nat) (hi : i < P.length) (hP : P.length ≤ 1000) : ∀ d k (yes : Bool), i - k = d → k ≤ i →
    M_ref21_All.l1 (l, P, isL l P i, (i : Int), yes, (k : Int)) = some (yes || decide (∃ j, k ≤ j ∧ Q1 l P i hi j)) := by
  intro d
  induction d with
  | zero =>
    intro k yes h1 h2
    rw [M_ref21_All.l1, if_neg (dge (by dsimp only; omega))]
    rw [decide_eq_false (by rintro ⟨j, h3, h4, _⟩; omega), Bool.or_false]
  | succ d ih =>
    intro k yes h1 h2
    have hk : k < i := by omega
    rw [M_ref21_All.l1, if_pos (dlt (by dsimp only; omega))]
    dsimp only
    cases yes with
    | true => rw [if_pos rfl]; rfl
    | false =>
      rw [if_neg (by simp), isL_get l P i k (by omega) hk, getI_nat hi, getI_nat (show k < P.length by omega), w64_succ (by omega)]
      simp -implicitDefEqProofs only [Option.bind_eq_bind, Option.bind_some]
      rw [ref01_In_eq]
      simp -implicitDefEqProofs only [Option.bind_some]
      have h2 := all_l2 l P hl i k (P[i] &&& ~~~P[k]) (by omega) (by omega) hP i 0 false (by omega) (by omega)
      rw [show ((0 : Nat) : Int) = 0 from rfl] at h2
      by_cases a1 : Conn l P[k]
      · rw [if_pos (decide_eq_true a1)]
        by_cases a2 : inS P[k] P[i] = true
        · rw [if_pos a2, h2]
          simp -implicitDefEqProofs only [Option.bind_some]
          rw [ih (k + 1) _ (by omega) (by omega)]
          by_cases a3 : ∃ j, 0 ≤ j ∧ Q2 l P i k (P[i] &&& ~~~P[k]) (by omega) (by omega) j
          · rw [decide_eq_true a3, dec_yes (n := k) ⟨hk, a1, a2, a3⟩]; rfl
          · rw [decide_eq_false a3, dec_no (n := k) (by rintro ⟨_, _, _, h⟩; exact a3 h)]; rfl
        · rw [if_neg a2, ih (k + 1) _ (by omega) (by omega), dec_no (n := k) (by rintro ⟨_, _, h, _⟩; exact a2 h)]
      · rw [if_neg (by simpa using a1), ih (k + 1) _ (by omega) (by omega), dec_no (n := k) (by rintro ⟨_, h, _, _⟩; exact a1 h)]
end
theorem cut_or {a b : Set64} (h : inS a b = true) : b = a ||| (b &&& ~~~a) := by
  rw [inS_hasI] at h
  refine set_ext fun n => ?_
  rw [hasI_or', hasI_cut]
  cases ha : hasI a n with
  | true => rw [h n ha]; rfl
  | false => cases hasI b n <;> rfl
theorem cut_apart (a b : Set64) : a &&& (b &&& ~~~a) = 0#64 := by
  rw [apart_iff]
  intro n hn
  rw [hasI_cut, hn]; simp
theorem or_cut {a b : Set64} (h : a &&& b = 0#64) : (a ||| b) &&& ~~~a = b := by
  rw [apart_iff] at h
  refine set_ext fun n => ?_
  rw [hasI_cut, hasI_or']
  cases ha : hasI a n with
  | true => rw [h n ha]; simp
  | false => simp
theorem sub_lt {a b : Set64} (h : inS a b = true) (hne : a ≠ b) : a.toNat < b.toNat := by
  have h1 : a &&& b = a := by
    rw [inS_hasI] at h
    refine set_ext fun n => ?_
    rw [hasI_and']
    cases ha : hasI a n with
    | true => rw [h n ha]; rfl
    | false => rfl
  have h2 : a.toNat ≤ b.toNat := by
    rw [← h1, BitVec.toNat_and]
    exact Nat.and_le_right
  rcases Nat.lt_or_ge a.toNat b.toNat with h3 | h3
  · exact h3
  · exact absurd (BitVec.eq_of_toNat_eq (by omega)) hne
/-- A part of a part lies ahead of it. -/
theorem parts_ahead {s a : Set64} {i : Nat} (hi : i < (partsL s).length) (h0 : a ≠ 0#64) (h1 : inS a (partsL s)[i] = true) (h2 : a ≠ (partsL s)[i]) : ∃ k, ∃ h : k < i, (partsL s)[k] = a := by
  have hs := ((partsL_mem s _).1 (List.getElem_mem hi)).2
  have ha : a ∈ partsL s := (partsL_mem s a).2 ⟨h0, inS_mono h1 hs⟩
  obtain ⟨k, hk, rfl⟩ := List.getElem_of_mem ha
  have hlt := sub_lt h1 h2
  rcases Nat.lt_trichotomy k i with h3 | h3 | h3
  · exact ⟨k, h3, rfl⟩
  · subst h3; omega
  · have := List.pairwise_iff_getElem.1 (partsL_lt s) i k hi hk h3
    omega
theorem conn_part (l : List T_api_Edge) (s : Set64) (i : Nat) (hi : i < (partsL s).length) : (((memb (partsL s)[i]).length : Int) == 1 || decide (∃ j, 0 ≤ j ∧ Q1 l (partsL s) i hi j)) = decide (Conn l (partsL s)[i]) := by
  have iff : ((memb (partsL s)[i]).length = 1 ∨ ∃ j, 0 ≤ j ∧ Q1 l (partsL s) i hi j) ↔ Conn l (partsL s)[i] := by
    constructor
    · rintro (h | ⟨k, _, hk, h1, h2, j, _, hj, h3, h4, h5⟩)
      · exact .one _ h
      · rw [h3] at h4
        have := Conn.join (l := l) _ _ h1 h4 (cut_apart _ _) h5
        rwa [← cut_or h2] at this
    · intro h
      generalize hx : (partsL s)[i] = x at h ⊢
      cases h with
      | one _ h => exact .inl h
      | join a b ha hb hab hl =>
        right
        have ha1 : inS a (partsL s)[i] = true := by rw [hx, inS_hasI]; intro n hn; rw [hasI_or', hn]; rfl
        have hb1 : inS b (partsL s)[i] = true := by rw [hx, inS_hasI]; intro n hn; rw [hasI_or', hn, Bool.or_true]
        have ha2 : a ≠ (partsL s)[i] := by
          intro e
          obtain ⟨n, hn⟩ := nz_has hb.nz
          have h1 := (inS_hasI _ _).1 hb1 n hn
          rw [← e] at h1
          rw [(apart_iff _ _).1 hab n h1] at hn; cases hn
        have hb2 : b ≠ (partsL s)[i] := by
          intro e
          obtain ⟨n, hn⟩ := nz_has ha.nz
          have h1 := (inS_hasI _ _).1 ha1 n hn
          rw [← e] at h1
          rw [(apart_iff _ _).1 hab n hn] at h1; cases h1
        obtain ⟨k, hk, hka⟩ := parts_ahead hi ha.nz ha1 ha2
        obtain ⟨j, hj, hjb⟩ := parts_ahead hi hb.nz hb1 hb2
        have hc : (partsL s)[i] &&& ~~~(partsL s)[k] = b := by rw [hx, hka]; exact or_cut hab
        exact ⟨k, Nat.zero_le _, hk, by rw [hka]; exact ha, by rw [hka]; exact ha1, j, Nat.zero_le _, hj, by rw [hc]; exact hjb, by rw [hjb]; exact hb, by rw [hc, hka]; exact hl⟩
  rw [Bool.eq_iff_iff, Bool.or_eq_true, decide_eq_true_eq, decide_eq_true_eq, ← iff]
  refine or_congr ?_ Iff.rfl
  rw [beq_iff_eq]; omega
theorem ref21_All_eq (l : List T_api_Edge) (s : Set64) (hl : l.length ≤ 1000000) (hc : (memb s).length ≤ 7) : M_ref21_All (l, s) = some (partsL s, (partsL s).map fun p => decide (Conn l p)) := by
  have hP : (partsL s).length ≤ 1000 := by
    rw [partsL_len]
    have := Nat.pow_le_pow_right (show 0 < 2 by omega) hc
    omega
  have l0 : ∀ d i, (partsL s).length - i = d → i ≤ (partsL s).length → M_ref21_All.l0 (l, partsL s, isL l (partsL s) i, (i : Int)) = some ((partsL s).map fun p => decide (Conn l p)) := by
    intro d
    induction d with
    | zero =>
      intro i h1 h2
      have : i = (partsL s).length := by omega
      subst this
      rw [M_ref21_All.l0, if_neg (dge (by dsimp only; omega))]
      unfold isL; rw [List.take_length]
    | succ d ih =>
      intro i h1 h2
      have hi : i < (partsL s).length := by omega
      rw [M_ref21_All.l0, if_pos (dlt (by dsimp only; omega))]
      dsimp only
      rw [getI_nat hi]
      simp -implicitDefEqProofs only [Option.bind_eq_bind, Option.bind_some]
      rw [ref01_Count_memb]
      simp -implicitDefEqProofs only [Option.bind_some]
      have h3 := all_l1 l (partsL s) hl i hi hP i 0 (((memb (partsL s)[i]).length : Int) == 1) (by omega) (by omega)
      rw [show ((0 : Nat) : Int) = 0 from rfl] at h3
      rw [h3]
      simp -implicitDefEqProofs only [Option.bind_some]
      rw [conn_part, room_of (by rw [isL_len _ _ _ h2]; simp only [List.length_cons, List.length_nil]; omega), w64_succ (by omega)]
      simp -implicitDefEqProofs only [Option.bind_some]
      have e : isL l (partsL s) i ++ [decide (Conn l (partsL s)[i])] = isL l (partsL s) (i + 1) := by
        unfold isL; rw [List.take_succ_eq_append_getElem hi, List.map_append]; rfl
      rw [e]
      exact ih (i + 1) (by omega) (by omega)
  unfold M_ref21_All
  dsimp only
  rw [ref01_Parts_eq s (by omega)]
  simp -implicitDefEqProofs only [Option.bind_eq_bind, Option.bind_some]
  have := l0 _ 0 rfl (Nat.zero_le _)
  rw [show isL l (partsL s) 0 = [] from rfl, show ((0 : Nat) : Int) = 0 from rfl] at this
  rw [this]; rfl
theorem ref21_Connected_eq (l : List T_api_Edge) (s : Set64) (hl : l.length ≤ 100000) (hc : (memb s).length ≤ 7) : M_ref21_Connected (l, s) = some (decide (Conn (l.filter fullE) s)) := by
  have hfl : (l.filter fullE).length ≤ 1000000 := Nat.le_trans (List.length_filter_le _ _) (by omega)
  generalize hm : l.filter fullE = m at hfl
  have hP : (partsL s).length ≤ 1000 := by
    rw [partsL_len]
    have := Nat.pow_le_pow_right (show 0 < 2 by omega) hc
    omega
  have l0 : ∀ d i, (partsL s).length - i = d → i ≤ (partsL s).length → (M_ref21_Connected.l0 (s, partsL s, (partsL s).map (fun p => decide (Conn m p)), (i : Int)) = some (.ret (decide (Conn m s)))) ∨ (M_ref21_Connected.l0 (s, partsL s, (partsL s).map (fun p => decide (Conn m p)), (i : Int)) = some (.brk ()) ∧ ∀ j (h : j < (partsL s).length), i ≤ j → (partsL s)[j] ≠ s) := by
    intro d
    induction d with
    | zero =>
      intro i h1 h2
      right
      rw [M_ref21_Connected.l0, if_neg (dge (by dsimp only; omega))]
      exact ⟨rfl, fun j h h3 => by omega⟩
    | succ d ih =>
      intro i h1 h2
      have hi : i < (partsL s).length := by omega
      rw [M_ref21_Connected.l0, if_pos (dlt (by dsimp only; omega))]
      dsimp only
      rw [getI_nat hi, getI_nat (show i < ((partsL s).map fun p => decide (Conn m p)).length by rw [List.length_map]; exact hi), w64_succ (by omega)]
      simp -implicitDefEqProofs only [Option.bind_eq_bind, Option.bind_some]
      by_cases h3 : (partsL s)[i] = s
      · left
        rw [if_pos (by simp [h3]), List.getElem_map, h3]
      · rw [if_neg (by simpa using h3)]
        rcases ih (i + 1) (by omega) (by omega) with h4 | ⟨h4, h5⟩
        · exact .inl h4
        · refine .inr ⟨h4, fun j h h6 => ?_⟩
          by_cases h7 : j = i
          · subst h7; exact h3
          · exact h5 j h (by omega)
  unfold M_ref21_Connected
  dsimp only
  rw [ref21_Full_eq l hl, hm]
  simp -implicitDefEqProofs only [Option.bind_eq_bind, Option.bind_some]
  rw [ref21_All_eq m s hfl hc]
  simp -implicitDefEqProofs only [Option.bind_some]
  have h0 := l0 _ 0 rfl (Nat.zero_le _)
  rw [show ((0 : Nat) : Int) = 0 from rfl] at h0
  rcases h0 with h0 | ⟨h0, h1⟩
  · rw [h0]; rfl
  · rw [h0]
    have : ¬ Conn m s := fun h => by
      have hs : s ∈ partsL s := (partsL_mem s s).2 ⟨h.nz, (inS_hasI _ _).2 fun n hn => hn⟩
      obtain ⟨j, hj, he⟩ := List.getElem_of_mem hs
      exact h1 j hj (Nat.zero_le _) he
    rw [decide_eq_false this]; rfl
theorem filter_full (l : List T_api_Edge) : (l.filter fullE).filter fullE = l.filter fullE := by
  rw [List.filter_filter]
  simp
theorem GraphTells_plain (l : List T_api_Edge) (a b : Set64) : M_law21_GraphTells (l, a, b) = some true := by
  unfold M_law21_GraphTells
  dsimp only
  by_cases h1 : (l.length : Int) > 40
  · rw [if_pos (decide_eq_true h1)]
  rw [if_neg (by simpa using h1), graph_Linked_eq _ _ _ (by omega), ref21_Linked_eq _ _ _ (by omega), graph_Near_eq _ _ _ (by omega), ref21_Near_eq _ _ _ (by omega), ref01_Count_memb]
  simp -implicitDefEqProofs only [Option.bind_eq_bind, Option.bind_some]
  by_cases h2 : ((memb a).length : Int) > 6
  · simp -implicitDefEqProofs only [decide_eq_true h2, if_true, bne_self_eq_false, Bool.false_eq_true, if_false]
    cases linkB l a b <;> rfl
  · rw [graph_Connected_eq _ _ (by omega), ref21_Connected_eq _ _ (by omega) (by omega)]
    simp -implicitDefEqProofs only [Option.bind_some, decide_eq_false h2, bne_self_eq_false, Bool.false_eq_true, if_false]
    cases linkB l a b <;> cases decide (Conn (l.filter fullE) a) <;> rfl
def QB (l : List T_api_Edge) (s : Set64) (i : Nat) : Prop := ∃ h : i < (partsL s).length, s &&& ~~~(partsL s)[i] ≠ 0#64 ∧ Conn l (partsL s)[i] ∧ Conn l (s &&& ~~~(partsL s)[i]) ∧ linkB l (partsL s)[i] (s &&& ~~~(partsL s)[i]) = true
theorem blocks_l0 (l : List T_api_Edge) (s : Set64) (hl : (l.filter fullE).length ≤ 100000) (hP : (partsL s).length ≤ 1000) : ∀ d i (w : Bool), (partsL s).length - i = d → i ≤ (partsL s).length →
    M_law21_GraphBlocks.l0 (l.filter fullE, s, w, partsL s, (i : Int)) = some (w || decide (∃ j, i ≤ j ∧ QB (l.filter fullE) s j)) := by
  intro d
  induction d with
  | zero =>
    intro i w h1 h2
    rw [M_law21_GraphBlocks.l0, if_neg (dge (by dsimp only; omega))]
    rw [decide_eq_false (by rintro ⟨j, h3, h4, _⟩; omega), Bool.or_false]
  | succ d ih =>
    intro i w h1 h2
    have hi : i < (partsL s).length := by omega
    rw [M_law21_GraphBlocks.l0, if_pos (dlt (by dsimp only; omega))]
    dsimp only
    rw [getI_nat hi, w64_succ (by omega)]
    simp -implicitDefEqProofs only [Option.bind_eq_bind, Option.bind_some]
    cases w with
    | true => rw [if_pos rfl, ih (i + 1) _ (by omega) (by omega)]; rfl
    | false =>
      rw [if_neg (by simp), graph_Connected_eq _ _ hl, graph_Connected_eq _ _ hl, graph_Linked_eq _ _ _ (by omega), filter_full]
      simp -implicitDefEqProofs only [Option.bind_some]
      by_cases a1 : s &&& ~~~(partsL s)[i] = 0#64
      · rw [if_neg (by simp [a1]), ih (i + 1) _ (by omega) (by omega), dec_no (n := i) (by rintro ⟨_, h, _⟩; exact h a1)]
      · rw [if_pos (by simpa using a1)]
        by_cases a2 : Conn (l.filter fullE) (partsL s)[i]
        · rw [if_pos (decide_eq_true a2)]
          by_cases a3 : Conn (l.filter fullE) (s &&& ~~~(partsL s)[i])
          · rw [if_pos (decide_eq_true a3), ih (i + 1) _ (by omega) (by omega)]
            by_cases a4 : linkB (l.filter fullE) (partsL s)[i] (s &&& ~~~(partsL s)[i]) = true
            · rw [a4, dec_yes (n := i) ⟨hi, a1, a2, a3, a4⟩]; rfl
            · rw [dec_no (n := i) (by rintro ⟨_, _, _, _, h⟩; exact a4 h)]
              simp at a4; rw [a4]
          · rw [if_neg (by simpa using a3), ih (i + 1) _ (by omega) (by omega), dec_no (n := i) (by rintro ⟨_, _, _, h, _⟩; exact a3 h)]
        · rw [if_neg (by simpa using a2), ih (i + 1) _ (by omega) (by omega), dec_no (n := i) (by rintro ⟨_, _, h, _⟩; exact a2 h)]
theorem GraphBlocks_plain (l : List T_api_Edge) (s : Set64) : M_law21_GraphBlocks (l, s) = some true := by
  unfold M_law21_GraphBlocks
  dsimp only
  by_cases h1 : (l.length : Int) > 40
  · rw [if_pos (decide_eq_true h1)]
  rw [if_neg (by simpa using h1), ref01_Count_memb]
  simp -implicitDefEqProofs only [Option.bind_eq_bind, Option.bind_some]
  by_cases h2 : ((memb s).length : Int) > 7
  · rw [if_pos (decide_eq_true h2)]
  have hfl : (l.filter fullE).length ≤ 100000 := Nat.le_trans (List.length_filter_le _ _) (by omega)
  have hP : (partsL s).length ≤ 1000 := by
    rw [partsL_len]
    have := Nat.pow_le_pow_right (show 0 < 2 by omega) (show (memb s).length ≤ 7 by omega)
    omega
  rw [if_neg (by simpa using h2), ref21_Full_eq l (by omega), ref01_Parts_eq s (by omega)]
  simp -implicitDefEqProofs only [Option.bind_some]
  have h0 := blocks_l0 l s hfl hP _ 0 (((memb s).length : Int) == 1) rfl (Nat.zero_le _)
  rw [show ((0 : Nat) : Int) = 0 from rfl] at h0
  rw [h0, graph_Connected_eq _ _ hfl, filter_full]
  simp -implicitDefEqProofs only [Option.bind_some]
  have key : (((memb s).length : Int) == 1 || decide (∃ j, 0 ≤ j ∧ QB (l.filter fullE) s j)) = decide (Conn (l.filter fullE) s) := by
    have iff : ((memb s).length = 1 ∨ ∃ j, 0 ≤ j ∧ QB (l.filter fullE) s j) ↔ Conn (l.filter fullE) s := by
      constructor
      · rintro (h | ⟨i, _, hi, h3, h4, h5, h6⟩)
        · exact .one _ h
        · have hin := ((partsL_mem s _).1 (List.getElem_mem hi)).2
          have := Conn.join (l := l.filter fullE) _ _ h4 h5 (cut_apart _ _) h6
          rwa [← cut_or hin] at this
      · intro h
        generalize hx : s = x at h ⊢
        cases h with
        | one _ h => exact .inl h
        | join a b ha hb hab hl =>
          right
          have ham : a ∈ partsL (a ||| b) := (partsL_mem _ a).2 ⟨ha.nz, (inS_hasI _ _).2 fun n hn => by rw [hasI_or', hn]; rfl⟩
          obtain ⟨i, hi, he⟩ := List.getElem_of_mem ham
          have hc : (a ||| b) &&& ~~~(partsL (a ||| b))[i] = b := by rw [he]; exact or_cut hab
          exact ⟨i, Nat.zero_le _, hi, by rw [hc]; exact hb.nz, by rw [he]; exact ha, by rw [hc]; exact hb, by rw [hc, he]; exact hl⟩
    rw [Bool.eq_iff_iff, Bool.or_eq_true, decide_eq_true_eq, decide_eq_true_eq, ← iff]
    refine or_congr ?_ Iff.rfl
    rw [beq_iff_eq]; omega
  rw [key]
  cases decide (Conn (l.filter fullE) s) <;> rfl
end Go.Proofs.YtdnnmopncndebaaDoor.G
set_option linter.unusedVariables false
set_option linter.unusedSimpArgs false
namespace Go.Proofs.YtdnnmopncndebaaDoor.G
open Go.ChangeShapes Go.WideShapes Go.ChangeAt Go.RowKit

theorem memOk0 (μ : TypeId → Bool) (w : World) (ht : TabOk gE w) : MemOk gE (mE μ) w := by
  constructor <;> first | exact ht | (intros; simp_all [gE, mE])
theorem imm0 (b n : Nat) : Imm gE b n := ⟨fun l h => by simp [gE] at h, fun id h => by simp [gE] at h⟩

/-- **A law's function that tells true: a call's fact.** -/
theorem Fn.law {P : Program} {f : FuncId} {args : List AV} {vs : Array Value} {w : World} (h : Fn P f args (.bool true)) (ht : TabOk gE w) (hr : Reps gE w args vs) :
    Calls P f vs w fun e w' => e = .returned (.bool true) ∧ Below w.heap.size w w' := by
  have h0 := h (mE fun _ => false)
  refine (callsIn_wide.1 (h0.2.2 gE w vs ⟨fun _ _ _ => rfl, fun _ _ _ => rfl⟩ (memOk0 _ w ht) hr)).mono ?_
  rintro e w' ⟨v, g', rfl, hs, hm, hv⟩
  rw [hv.atom_inv]
  exact ⟨rfl, hs.os, hs.tape, hs.output, hs.size, fun b hb => hs.same b hb (fun l h => by simp [mE] at h) (fun l h => by simp [mE] at h)⟩

theorem Reps.nil {g : Gh} {w : World} : Reps g w [] #[] := ⟨rfl, fun j c v h => by cases h⟩
theorem Reps.cons {g : Gh} {w : World} {a : AV} {v : Value} {as_ : List AV} {vs : List Value} (h : Rep g w a v) (hs : Reps g w as_ vs.toArray) : Reps g w (a :: as_) (v :: vs).toArray := by
  refine ⟨by have := hs.1; simp at this ⊢; omega, fun j c x hc hx => ?_⟩
  cases j with
  | zero => simp at hc hx; subst hc hx; exact h
  | succ j => simp at hc hx; exact hs.2 j c x hc (by simpa using hx)

/-- A type's value out of its cells. -/
def ofCells (P : Program) (t : TypeId) (cs : List AV) : Option AV :=
  match aggT P t with
  | some true => some (.agg cs)
  | some false => match cs with
    | [c] => some c
    | _ => none
  | none => none
/-- Data of a type: numbers, truths, texts; rows and structs of these. -/
inductive Wt (P : Program) : TypeId → List AV → Prop
  | bool (t : TypeId) (b : Bool) (ht : P.underlying t = some .bool) : Wt P t [.atom (.bool b)]
  | int (t : TypeId) (k : IntKind) (n : Int) (ht : P.underlying t = some (.int k)) (h : k.min ≤ n ∧ n ≤ k.max) : Wt P t [.atom (.int k n)]
  | string (t : TypeId) (s : ByteArray) (ht : P.underlying t = some .string) (h : s.size ≤ maxLen) : Wt P t [.atom (.string s)]
  | slice (t e : TypeId) (es : List AV) (ht : P.underlying t = some (.slice e)) (hl : es.length ≤ maxLen) (h : ∀ x ∈ es, Wt P e x.cells) (hf : ∀ x ∈ es, ofCells P e x.cells = some x) : Wt P t [.slice .foreign es]
  | struct (t : TypeId) (fs : Array Field) (cs : List AV) (ht : P.underlying t = some (.struct fs)) (hl : cs.length = P.cellsOf t) (h : ∀ (i : Nat) (f : Field), fs[i]? = some f → Wt P f.type ((cs.drop f.offset).take (P.cellsOf f.type))) : Wt P t cs
  | array (t e : TypeId) (n : Nat) (cs : List AV) (ht : P.underlying t = some (.array n e)) (hl : cs.length = P.cellsOf t) (h : ∀ i, i < n → Wt P e ((cs.drop (i * P.cellsOf e)).take (P.cellsOf e))) : Wt P t cs

/-- Parts one behind the other. -/
def tiles : Nat → List (Nat × Nat) → Option Nat
  | k, [] => some k
  | k, (o, s) :: l => if o = k then tiles (k + s) l else none
/-- Types of data, and all that are within. -/
def plainT (P : Program) (S : List TypeId) : Bool := S.all fun t => match P.underlying t with
  | some .bool | some (.int _) | some .string => P.cellsOf t == 1
  | some (.slice e) => S.contains e && decide (0 < P.cellsOf e) && P.cellsOf t == 1
  | some (.struct fs) => (fs.all fun f => S.contains f.type) && tiles 0 (fs.toList.map fun f => (f.offset, P.cellsOf f.type)) == some (P.cellsOf t)
  | some (.array n e) => S.contains e && tiles 0 ((List.range n).map fun i => (i * P.cellsOf e, P.cellsOf e)) == some (P.cellsOf t)
  | _ => false

section
variable {H : Type} {enc : TypeId × Value → H} {P : Program} {W : World} {base b0 : Nat} {spare : Nat → Bool} {held : Bool} {r : Reach}

theorem cells?_get {w : World} {a : Addr} {n : Nat} {cs : List Value} (h : w.cells? base a n = some cs) : cs.length = n ∧ ∀ (j : Nat) (v : Value), cs[j]? = some v → w.cell? (a.add j) = some v := by
  unfold World.cells? at h
  split at h
  · have h1 := mapM_some_length h
    refine ⟨by simpa using h1, fun j v hj => ?_⟩
    have hlt : j < n := by rw [← List.length_range (n := n), ← h1]; exact (List.getElem?_eq_some_iff.1 hj).1
    rw [mapM_some_get h j j (by simp [hlt])]; exact hj
  · cases h

/-- Each part of cells that stand for values. -/
def CellsRep (w : World) (as_ : List AV) (cs : List Value) : Prop := as_.length = cs.length ∧ (∀ c ∈ as_, c.one = true) ∧ ∀ (j : Nat) (a : AV) (v : Value), as_[j]? = some a → cs[j]? = some v → Rep gE w a v

theorem tiles_le : ∀ {l : List (Nat × Nat)} {k n : Nat}, tiles k l = some n → k ≤ n := by
  intro l
  induction l with
  | nil => intro k n h; simp [tiles] at h; omega
  | cons x l ih =>
    intro k n h
    obtain ⟨o, s⟩ := x
    simp only [tiles] at h
    split at h
    · have := ih h; omega
    · cases h
theorem tile {w : World} {cs : List Value} {n : Nat} (hn : cs.length = n) : ∀ (l : List (Nat × Nat)) (k : Nat) (Q : Nat → List AV → Prop), tiles k l = some n → (∀ (i o s : Nat), l[i]? = some (o, s) → ∃ as_, CellsRep w as_ ((cs.drop o).take s) ∧ Q i as_) →
    ∃ as_, CellsRep w as_ (cs.drop k) ∧ ∀ (i o s : Nat), l[i]? = some (o, s) → k ≤ o ∧ Q i ((as_.drop (o - k)).take s) := by
  intro l
  induction l with
  | nil =>
    intro k Q h _
    simp [tiles] at h
    subst h
    exact ⟨[], ⟨by simp; omega, by simp, fun j a v h => by simp at h⟩, fun i o s h => by simp at h⟩
  | cons x l ih =>
    intro k Q h hp
    obtain ⟨o, s⟩ := x
    simp only [tiles] at h
    split at h
    · rename_i hok
      subst hok
      have hle := tiles_le h
      obtain ⟨as0, ⟨h1, h2, h3⟩, hq⟩ := hp 0 o s rfl
      obtain ⟨as1, ⟨h4, h5, h6⟩, hq1⟩ := ih (o + s) (fun i => Q (i + 1)) h (fun i o' s' hi => hp (i + 1) o' s' (by simpa using hi))
      have hl0 : as0.length = s := by rw [h1]; simp; omega
      refine ⟨as0 ++ as1, ⟨by simp [hl0, h4]; omega, fun c hc => (List.mem_append.1 hc).elim (h2 c) (h5 c), fun j a v ha hv => ?_⟩, fun i o' s' hi => ?_⟩
      · rw [List.getElem?_drop] at hv
        by_cases hj : j < s
        · rw [List.getElem?_append_left (by omega)] at ha
          exact h3 j a v ha (by rw [List.getElem?_take_of_lt hj, List.getElem?_drop]; exact hv)
        · rw [List.getElem?_append_right (by omega), hl0] at ha
          exact h6 (j - s) a v ha (by rw [List.getElem?_drop, ← hv]; congr 1; omega)
      · cases i with
        | zero =>
          simp at hi
          obtain ⟨rfl, rfl⟩ := hi
          refine ⟨Nat.le_refl _, ?_⟩
          rw [Nat.sub_self, List.drop_zero, List.take_append_of_le_length (by omega), List.take_of_length_le (by omega)]
          exact hq
        | succ i =>
          obtain ⟨h7, h8⟩ := hq1 i o' s' (by simpa using hi)
          refine ⟨by omega, ?_⟩
          have : o' - o = s + (o' - (o + s)) := by omega
          have hd : List.drop (s + (o' - (o + s))) as0 = [] := List.drop_eq_nil_of_le (by omega)
          rw [this, List.drop_append, hd, hl0, List.nil_append, show s + (o' - (o + s)) - s = o' - (o + s) from by omega]
          exact h8
    · cases h

theorem ofCells_cells {t : TypeId} {cs : List AV} {x : AV} (h : ofCells P t cs = some x) (ho : ∀ c ∈ cs, c.one = true) : x.cells = cs := by
  unfold ofCells at h
  split at h
  · injection h with h; subst h; rfl
  · split at h
    · injection h with h; subst h
      rename_i c
      have := ho c (by simp)
      cases c <;> first | rfl | (simp [AV.one] at this)
    · cases h
  · cases h

/-- **What the caller's data is.** -/
theorem reads {S : List TypeId} (hS : plainT P S = true) : ∀ (fuel : Nat) (t : TypeId) (cs : List Value) (x : DataW H × List MemPlace), t ∈ S → DataW.trod enc P W base spare held fuel t cs = some x → ∃ as_, CellsRep W as_ cs ∧ Wt P t as_ ∧ cs.length = P.cellsOf t := by
  intro fuel
  induction fuel with
  | zero => intro t cs x _ h; simp [DataW.trod] at h
  | succ fuel ih =>
    intro t cs x ht h
    have hp := List.all_eq_true.1 hS t ht
    have one1 : ∀ (a : AV) (v : Value), a.one = true → Rep gE W a v → CellsRep W [a] [v] := fun a v ho hr => ⟨rfl, by simpa using ho, fun j a' v' h1 h2 => by
      cases j with
      | zero => simp at h1 h2; subst h1 h2; exact hr
      | succ j => simp at h1⟩
    split at hp
    · rename_i hu
      obtain ⟨b, rfl, _⟩ := DataW.trod_bool hu h
      exact ⟨_, one1 _ _ rfl (.atom (.bool b) rfl), .bool t b hu, by simp at hp ⊢; exact hp.symm⟩
    · rename_i k hu
      obtain ⟨n, rfl, _, hw⟩ := DataW.trod_int hu h
      exact ⟨_, one1 _ _ rfl (.atom (.int k n) rfl), .int t k n hu (by simpa [Lit.wf] using hw), by simp at hp ⊢; exact hp.symm⟩
    · rename_i hu
      obtain ⟨s, rfl, _, hw⟩ := DataW.trod_string hu h
      exact ⟨_, one1 _ _ rfl (.atom (.string s) rfl), .string t s hu hw, by simp at hp ⊢; exact hp.symm⟩
    · rename_i e hu
      simp only [Bool.and_eq_true, decide_eq_true_eq, List.contains_iff_mem, beq_iff_eq] at hp
      obtain ⟨⟨he, hz⟩, hct⟩ := hp
      rcases DataW.trod_slice hu h with ⟨rfl, _⟩ | ⟨a, len, cap, elems, rest, n, hn, rfl, _, hb, hl, hm, hlen, hel, _, _⟩
      · exact ⟨_, one1 _ _ rfl (.nil .foreign none 0 (fun id h => by cases h) (fun h => by cases h)), .slice t e [] hu (by simp) (by simp) (by simp), by simp [hct]⟩
      · obtain rfl : fuel = n := by omega
        -- the elements
        have each : ∀ i, i < len → ∃ (cs : List Value) (as_ : List AV), W.cells? base (a.add (i * P.cellsOf e)) (P.cellsOf e) = some cs ∧ CellsRep W as_ cs ∧ Wt P e as_ ∧ cs.length = P.cellsOf e := by
          intro i hi
          have h1 := hel i hi
          obtain ⟨y, hy⟩ : ∃ y, elems[i]? = some y := ⟨_, List.getElem?_eq_getElem (by omega)⟩
          rw [hy, Option.bind_eq_some_iff] at h1
          obtain ⟨cs, h2, h3⟩ := h1
          obtain ⟨as_, h4, h5, h6⟩ := ih e cs y he h3
          exact ⟨cs, as_, h2, h4, h5, h6⟩
        have fm : ∀ cs, Wt P e cs → ∃ x, ofCells P e cs = some x := by
          intro cs hw
          unfold ofCells aggT
          cases hw with
          | bool t b ht => rw [ht]; exact ⟨_, rfl⟩
          | int t k n ht _ => rw [ht]; exact ⟨_, rfl⟩
          | string t s ht _ => rw [ht]; exact ⟨_, rfl⟩
          | slice t e es ht _ _ _ => rw [ht]; exact ⟨_, rfl⟩
          | struct t fs cs ht _ _ => rw [ht]; exact ⟨_, rfl⟩
          | array t e n cs ht _ _ => rw [ht]; exact ⟨_, rfl⟩
        have each2 : ∀ i, ∃ x : AV, i < len → ∃ cs, W.cells? base (a.add (i * P.cellsOf e)) (P.cellsOf e) = some cs ∧ CellsRep W x.cells cs ∧ Wt P e x.cells ∧ ofCells P e x.cells = some x ∧ x.cells.length = P.cellsOf e := by
          intro i
          by_cases hi : i < len
          · obtain ⟨cs, as_, h1, h2, h3, h4⟩ := each i hi
            obtain ⟨x, hx⟩ := fm as_ h3
            have hxc := ofCells_cells hx h2.2.1
            exact ⟨x, fun _ => ⟨cs, h1, by rw [hxc]; exact h2, by rw [hxc]; exact h3, by rw [hxc]; exact hx, by rw [hxc, h2.1, h4]⟩⟩
          · exact ⟨.undef, fun h => absurd h hi⟩
        obtain ⟨el, hel2⟩ := Classical.axiomOfChoice each2
        have hes : ∀ (i : Nat) (x : AV), ((List.range len).map el)[i]? = some x → i < len ∧ x = el i := by
          intro i x hx
          rw [List.getElem?_map] at hx
          cases hr : (List.range len)[i]? with
          | none => rw [hr] at hx; cases hx
          | some j =>
            rw [hr] at hx; injection hx with hx
            obtain ⟨h1, h2⟩ := List.getElem?_eq_some_iff.1 hr
            simp at h1 h2; subst h2; exact ⟨h1, hx.symm⟩
        have hmem : ∀ x ∈ (List.range len).map el, ∃ i, i < len ∧ x = el i := by
          intro x hx
          obtain ⟨i, hi, rfl⟩ := List.mem_map.1 hx
          exact ⟨i, by simpa using hi, rfl⟩
        refine ⟨[.slice .foreign ((List.range len).map el)], one1 _ _ rfl ?_, .slice t e _ hu (by simp; omega) (fun x hx => ?_) (fun x hx => ?_), by simp [hct]⟩
        · by_cases h0 : len = 0
          · subst h0; exact .nil .foreign _ _ (fun id h => by cases h) (fun h => by cases h)
          · have hspot : a.spot = none := by
              obtain ⟨cs, h1, h2, _, _, h3⟩ := hel2 0 (by omega)
              have hcl : 0 < cs.length := by rw [← h2.1, h3]; exact hz
              have h4 := (cells?_get h1).2 0 _ (List.getElem?_eq_getElem hcl)
              unfold World.cell? at h4
              split at h4
              · split at h4
                · cases h4
                · rename_i hs
                  obtain ⟨b, o, sp⟩ := a
                  cases sp with
                  | none => rfl
                  | some s => simp [Addr.add] at hs
              · cases h4
            obtain ⟨b, o, sp⟩ := a
            dsimp only at hspot
            subst hspot
            have hlm : ((List.range len).map el).length = len := by simp
            have key : Rep gE W (.slice .foreign ((List.range len).map el)) (.slice (some ⟨b, o, none⟩) ((List.range len).map el).length cap) := by
              refine Rep.slice_mk hz (fun x hx => ?_) (fun _ => imm0 _ _) (fun i x hx => ?_) (by rw [hlm]; exact hl) trivial
              · obtain ⟨i, hi, rfl⟩ := hmem x hx
                obtain ⟨cs, _, _, _, _, h3⟩ := hel2 i hi
                exact h3
              · obtain ⟨hi, rfl⟩ := hes i x hx
                obtain ⟨cs, h1, h2, _, _, h3⟩ := hel2 i hi
                refine ⟨h2.2.1, fun j c hj => ?_⟩
                have hlt : j < cs.length := by rw [← h2.1]; exact (List.getElem?_eq_some_iff.1 hj).1
                have h4 := (cells?_get h1).2 j _ (List.getElem?_eq_getElem hlt)
                rw [add_plain, add_plain] at h4
                exact ⟨_, h4, h2.2.2 j c _ hj (List.getElem?_eq_getElem hlt)⟩
            rw [hlm] at key
            exact key
        · obtain ⟨i, hi, rfl⟩ := hmem x hx
          obtain ⟨cs, _, _, h3, _, _⟩ := hel2 i hi
          exact h3
        · obtain ⟨i, hi, rfl⟩ := hmem x hx
          obtain ⟨cs, _, _, _, h3, _⟩ := hel2 i hi
          exact h3
    · rename_i fs hu
      simp only [Bool.and_eq_true, beq_iff_eq] at hp
      obtain ⟨hp1, hp2⟩ := hp
      obtain ⟨xs, n, hn, _, hl, hxl, hf⟩ := DataW.trod_struct hu h
      obtain rfl : fuel = n := by omega
      obtain ⟨as_, h1, h2⟩ := tile (w := W) hl _ 0 (fun i as_ => ∀ f, fs[i]? = some f → Wt P f.type as_) hp2 (fun i o s hi => by
        rw [List.getElem?_map] at hi
        cases hfi : fs.toList[i]? with
        | none => rw [hfi] at hi; cases hi
        | some f =>
          rw [hfi] at hi; injection hi with hi; injection hi with e1 e2; subst e1 e2
          have hfi' : fs[i]? = some f := by simpa using hfi
          have h3 := hf i f hfi'
          obtain ⟨y, hy⟩ : ∃ y, xs[i]? = some y := ⟨_, List.getElem?_eq_getElem (by rw [hxl]; exact (Array.getElem?_eq_some_iff.1 hfi').1)⟩
          rw [hy] at h3
          have hmem : f.type ∈ S := by
            rw [← Array.all_toList] at hp1
            simpa using List.all_eq_true.1 hp1 f (List.mem_of_getElem? hfi)
          obtain ⟨as_, h4, h5, h6⟩ := ih _ _ _ hmem h3
          exact ⟨as_, h4, fun f' hf' => by rw [hfi'] at hf'; injection hf' with hf'; subst hf'; exact h5⟩)
      refine ⟨as_, by simpa using h1, .struct t fs as_ hu (by rw [h1.1]; simpa using hl) (fun i f hfi => ?_), hl⟩
      have := (h2 i f.offset (P.cellsOf f.type) (by simp [hfi])).2 f hfi
      simpa using this
    · rename_i m e hu
      simp only [Bool.and_eq_true, beq_iff_eq, List.contains_iff_mem] at hp
      obtain ⟨hp1, hp2⟩ := hp
      obtain ⟨xs, n, hn, _, hl, hxl, hf⟩ := DataW.trod_array hu h
      obtain rfl : fuel = n := by omega
      obtain ⟨as_, h1, h2⟩ := tile (w := W) hl _ 0 (fun i as_ => Wt P e as_) hp2 (fun i o s hi => by
        rw [List.getElem?_map] at hi
        cases hfi : (List.range m)[i]? with
        | none => rw [hfi] at hi; cases hi
        | some j =>
          rw [hfi] at hi; injection hi with hi; injection hi with e1 e2; subst e1 e2
          obtain ⟨q1, q2⟩ := List.getElem?_eq_some_iff.1 hfi
          simp at q1 q2; subst q2
          have h3 := hf i q1
          obtain ⟨y, hy⟩ : ∃ y, xs[i]? = some y := ⟨_, List.getElem?_eq_getElem (by omega)⟩
          rw [hy] at h3
          obtain ⟨as_, h4, h5, h6⟩ := ih _ _ _ hp1 h3
          exact ⟨as_, h4, h5⟩)
      refine ⟨as_, by simpa using h1, .array t e m as_ hu (by rw [h1.1]; simpa using hl) (fun i hi => ?_), hl⟩
      have := (h2 i (i * P.cellsOf e) (P.cellsOf e) (by simp [hi])).2
      simpa using this
    · cases hp

/-- A parameter. -/
theorem reads_param {S : List TypeId} (hS : plainT P S = true) {t : TypeId} {v : Value} {d : DataW H} {ps : List MemPlace} (ht : t ∈ S) (hval : Value.okWide P W r b0 t v) (hd : DataW.Trod enc P W base spare held t v d ps) : ∃ a as_, Rep gE W a v ∧ Wt P t as_ ∧ ofCells P t as_ = some a := by
  obtain ⟨fuel, hf⟩ := hd
  obtain ⟨as_, ⟨h1, h2, h3⟩, h4, h5⟩ := reads hS fuel t _ _ ht hf
  have single : (∀ cs, v ≠ .agg cs) → (∀ cs, v ≠ .tuple cs) → v.cells = #[v] := by
    intro ha hb
    cases v <;> first | rfl | (exact absurd rfl (ha _)) | (exact absurd rfl (hb _))
  have hp := List.all_eq_true.1 hS t ht
  unfold Value.okWide at hval
  cases hu : P.underlying t with
  | none => rw [hu] at hp; cases hp
  | some dsc =>
    have agg : (∃ cs, v = .agg cs ∧ cs.size = P.cellsOf t ∧ Row.okWide P W r b0 t cs) → aggT P t = some true → ∃ a as_, Rep gE W a v ∧ Wt P t as_ ∧ ofCells P t as_ = some a := by
      rintro ⟨cs, rfl, hsz, _⟩ hag
      refine ⟨.agg as_, as_, .agg as_ cs (by rw [h1]; simp [Value.cells]) h2 (fun j c u hj hu => h3 j c u hj (by simpa [Value.cells] using hu)), h4, ?_⟩
      unfold ofCells
      rw [hag]
    have one1 : aggT P t = some false → P.cellsOf t = 1 → (∃ u, v.cells = #[u] ∧ u = v) → ∃ a as_, Rep gE W a v ∧ Wt P t as_ ∧ ofCells P t as_ = some a := by
      rintro hag hct ⟨u, hu, rfl⟩
      have hl : as_.length = 1 := by rw [h1, hu]; rfl
      obtain ⟨a, rfl⟩ : ∃ a, as_ = [a] := by
        match as_, hl with
        | [a], _ => exact ⟨a, rfl⟩
      refine ⟨a, [a], h3 0 a u rfl (by rw [hu]; rfl), h4, ?_⟩
      unfold ofCells
      rw [hag]
    have scal : aggT P t = some false → Cell.okWide P W r b0 t v → P.cellsOf t = 1 → ∃ a as_, Rep gE W a v ∧ Wt P t as_ ∧ ofCells P t as_ = some a := by
      intro hag hc hct
      have no : ∀ cs, v ≠ .agg cs ∧ v ≠ .tuple cs := by
        intro cs
        refine ⟨fun e => ?_, fun e => ?_⟩ <;>
        · subst e
          simp only [Cell.okWide, Cell.ok, hu] at hc
      exact one1 hag hct ⟨v, single (fun cs => (no cs).1) (fun cs => (no cs).2), rfl⟩
    rw [hu] at hval hp
    have hs : ∀ b, (match dsc with | .struct _ => true | .array _ _ => true | _ => false) = b → aggT P t = some b := by
      intro b hb
      unfold aggT
      simp only [hu]
      cases dsc <;> simp_all
    cases dsc <;> first | (cases hp; done) | (exact agg hval (hs _ rfl)) | skip
    · exact scal (hs _ rfl) hval (by simpa using hp)
    · exact scal (hs _ rfl) hval (by simpa using hp)
    · exact scal (hs _ rfl) hval (by simpa using hp)
    · simp only [Bool.and_eq_true, beq_iff_eq] at hp; exact scal (hs _ rfl) hval hp.2
end
end Go.Proofs.YtdnnmopncndebaaDoor.G
set_option linter.unusedVariables false
set_option linter.unusedSimpArgs false
namespace Go.Proofs.YtdnnmopncndebaaDoor.G

def structT (P : Program) (t : TypeId) : Option (List (TypeId × Nat × Nat)) := match P.underlying t with
  | some (.struct fs) => some (fs.toList.map fun f => (f.type, f.offset, P.cellsOf f.type))
  | _ => none
theorem Wt.int_inv {P : Program} {t : TypeId} {k : IntKind} {cs : List AV} (ht : P.underlying t = some (.int k)) (h : Wt P t cs) : ∃ n, cs = [.atom (.int k n)] ∧ k.min ≤ n ∧ n ≤ k.max := by
  cases h <;> rename_i h1 <;> simp_all
theorem Wt.bool_inv {P : Program} {t : TypeId} {cs : List AV} (ht : P.underlying t = some .bool) (h : Wt P t cs) : ∃ b, cs = [.bool b] := by
  cases h <;> rename_i h1 <;> simp_all
theorem Wt.slice_inv {P : Program} {t e : TypeId} {cs : List AV} (ht : P.underlying t = some (.slice e)) (h : Wt P t cs) : ∃ es, cs = [.slice .foreign es] ∧ es.length ≤ maxLen ∧ (∀ x ∈ es, Wt P e x.cells) ∧ ∀ x ∈ es, ofCells P e x.cells = some x := by
  cases h <;> rename_i h1 <;> simp_all
theorem Wt.struct_inv {P : Program} {t : TypeId} {cs : List AV} {l : List (TypeId × Nat × Nat)} (ht : structT P t = some l) (h : Wt P t cs) : cs.length = P.cellsOf t ∧ ∀ (i : Nat) (ty off sz : Nat), l[i]? = some (ty, off, sz) → Wt P ty ((cs.drop off).take sz) := by
  unfold structT at ht
  split at ht
  · rename_i fs hu
    injection ht with ht; subst ht
    cases h <;> rename_i h1 <;> simp_all
    rename_i h2
    intro i ty off sz x hx e1 e2 e3
    subst e1 e2 e3
    exact h2 i x hx
  · cases ht
theorem uncons {α : Type} {cs : List α} {n : Nat} (h : cs.length = n + 1) : ∃ c tl, cs = c :: tl ∧ tl.length = n := by
  cases cs with
  | nil => simp at h
  | cons c tl => exact ⟨c, tl, rfl, by simpa using h⟩
theorem Wt.i64 {P : Program} {t : TypeId} {c : AV} (ht : P.underlying t = some (.int .i64)) (h : Wt P t [c]) : ∃ n, c = .i64 n := by
  obtain ⟨n, hn, _⟩ := h.int_inv ht
  injection hn with hn; exact ⟨n, hn⟩
theorem Wt.b {P : Program} {t : TypeId} {c : AV} (ht : P.underlying t = some .bool) (h : Wt P t [c]) : ∃ n, c = .bool n := by
  obtain ⟨n, hn⟩ := h.bool_inv ht
  injection hn with hn; exact ⟨n, hn⟩
theorem rowsOf {P : Program} {e : TypeId} {α : Type} {f : α → AV} {G : α → Prop} (hagg : ∀ x, ofCells P e (f x).cells = some (f x)) {es : List AV} (h2 : ∀ x ∈ es, ∃ y, x.cells = (f y).cells ∧ G y) (h3 : ∀ x ∈ es, ofCells P e x.cells = some x) : ∃ l : List α, es = l.map f ∧ ∀ x ∈ l, G x := by
  induction es with
  | nil => exact ⟨[], rfl, by simp⟩
  | cons e es ih =>
    obtain ⟨l, rfl, hl⟩ := ih (fun x hx => h2 x (List.mem_cons_of_mem _ hx)) fun x hx => h3 x (List.mem_cons_of_mem _ hx)
    obtain ⟨x, hx, gx⟩ := h2 e (by simp)
    have := h3 e (by simp)
    rw [hx, hagg] at this
    injection this with this
    exact ⟨x :: l, by rw [← this]; rfl, fun y hy => (List.mem_cons.1 hy).elim (fun h => h ▸ gx) (hl y)⟩
theorem structT_field {P : Program} {t : TypeId} {fs : Array Field} {l : List (TypeId × Nat × Nat)} {i ty off sz : Nat} (ht : structT P t = some l) (hu : P.underlying t = some (.struct fs)) (hi : l[i]? = some (ty, off, sz)) : ∃ f, fs[i]? = some f ∧ f.type = ty ∧ f.offset = off ∧ P.cellsOf f.type = sz := by
  unfold structT at ht
  rw [hu] at ht
  injection ht with ht; subst ht
  simp at hi
  obtain ⟨f, hf, h1, h2, h3⟩ := hi
  exact ⟨f, hf, h1, h2, h3⟩
theorem structT_u {P : Program} {t : TypeId} {l : List (TypeId × Nat × Nat)} (ht : structT P t = some l) : ∃ fs, P.underlying t = some (.struct fs) := by
  unfold structT at ht
  split at ht
  · exact ⟨_, by assumption⟩
  · cases ht
theorem u64_mk {n : Int} (h1 : IntKind.u64.min ≤ n) (h2 : n ≤ IntKind.u64.max) : AV.u64 n = .w (BitVec.ofNat 64 n.toNat) := by
  have e1 : IntKind.u64.min = 0 := by decide
  have e2 : IntKind.u64.max = 18446744073709551615 := by decide
  rw [e1] at h1; rw [e2] at h2
  simp only [AV.w, BitVec.toNat_ofNat]
  congr 2; omega
theorem Wt.w {P : Program} {t : TypeId} {c : AV} (ht : P.underlying t = some (.int .u64)) (h : Wt P t [c]) : ∃ s, c = .w s := by
  obtain ⟨n, hn, h1, h2⟩ := h.int_inv ht
  injection hn with hn; subst hn
  exact ⟨_, u64_mk h1 h2⟩
/-- A type with one cell. -/
theorem one_cell {P : Program} {t : TypeId} {cs : List AV} {a : AV} (h1 : aggT P t = some false) (h2 : ofCells P t cs = some a) : cs = [a] := by
  unfold ofCells at h2
  rw [h1] at h2
  simp only at h2
  split at h2
  · injection h2 with h2; rw [h2]
  · cases h2
theorem agg_of {P : Program} {t : TypeId} {cs : List AV} (h : aggT P t = some true) : ofCells P t (AV.agg cs).cells = some (.agg cs) := by
  unfold ofCells
  rw [h]; rfl
end Go.Proofs.YtdnnmopncndebaaDoor.G
