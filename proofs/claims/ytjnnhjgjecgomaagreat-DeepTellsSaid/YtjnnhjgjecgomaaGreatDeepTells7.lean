/-
DeepTells: the law returns true whatever the input.
-/
import Derived.Test.YtjnnhjgjecgomaaGreatDeepTells6
import Derived.KernelRfl
import Derived.WalkKit
import Derived.ProofKit
import Derived.OpenShut
import Derived.ChangeOld
import Derived.Below
import Derived.Carry
import Derived.SizedLaws
import Derived.Test.YtjnnhjgjecgomaaGreatRows
set_option linter.unusedVariables false
set_option linter.unusedSimpArgs false
set_option maxRecDepth 100000
set_option maxHeartbeats 8000000
namespace Go.Proofs.YtjnnhjgjecgomaaGreat.G
section
theorem ABa {α:Type} (pre:List α) (x:α) (post:List α):AU (pre++x :: post) (pre.length:Int)=some x:=by
 rw[Ai (by rw[List.length_append,List.length_cons];omega)]
 congr 1
 rw[List.getElem_append_right (by omega)]
 simp
theorem Rw {α:Type} (pre:List α) (x:α):(pre++[x]).length=pre.length+1:=by rw[List.length_append];rfl
theorem AIi (z1 z2:AA):∀ (post pre:List AB),pre.length+post.length≤1000000→(∀ p∈post,p.size≤1000000) →
  BW.l0 (pre,pre++post,((pre++post).length:Int),(pre.length:Int),z1,z2)=some (pre++post):=by
 intro post
 induction post with
 | nil=>intro pre _ _;rw[List.append_nil,BW.l0,if_neg (dge (by dsimp only;omega))]
 | cons p post ih =>
  intro pre hl hs
  simp only[List.length_cons] at hl
  have hlen:(pre++p :: post).length=pre.length+(post.length+1):=by rw[List.length_append];rfl
  have h0:=ih (pre++[p]) (by rw[Rw];omega) (fun x hx=>hs x (List.mem_cons_of_mem _ hx))
  rw[Rw,List.append_assoc] at h0
  rw[BW.l0,if_pos (dlt (by dsimp only;omega))]
  dsimp only
  rw[ABa]
  simp -implicitDefEqProofs only[Option.bind_eq_bind,Option.bind_some]
  rw[Mv p (hs p List.mem_cons_self)]
  simp -implicitDefEqProofs only[Option.bind_some]
  rw[Bt (by simp only[List.length_cons,List.length_nil];omega),Aa (by omega)]
  exact h0
theorem Gz (t:AA):t.size≤1000000→BW t=some t:=by
 induction t using AA.induct with
 | h t ih =>
  intro hsz
  have hk:=NG t
  have hc:=LI t
  have key:∀ (o8:List AB) (z1 z2:AA) (post pre:List AA),pre.length+post.length≤1000000→(∀ y∈post,y∈t.Kids) →
    BW.l1 (o8,pre,pre++post,((pre++post).length:Int),(pre.length:Int),z1,z2)=some (pre++post):=by
   intro o8 z1 z2 post
   induction post with
   | nil=>intro pre _ _;rw[List.append_nil,BW.l1,if_neg (dge (by dsimp only;omega))]
   | cons p post ih2 =>
    intro pre hl hs
    simp only[List.length_cons] at hl
    have hlen:(pre++p :: post).length=pre.length+(post.length+1):=by rw[List.length_append];rfl
    have h0:=ih2 (pre++[p]) (by rw[Rw];omega) (fun x hx=>hs x (List.mem_cons_of_mem _ hx))
    rw[Rw,List.append_assoc] at h0
    have hp:=hs p List.mem_cons_self
    have hps:=Cc hp
    rw[BW.l1,if_pos (dlt (by dsimp only;omega))]
    dsimp only
    rw[ABa]
    simp -implicitDefEqProofs only[Option.bind_eq_bind,Option.bind_some]
    rw[ih p hp (by omega)]
    simp -implicitDefEqProofs only[Option.bind_some]
    rw[Bt (by simp only[List.length_cons,List.length_nil];omega),Aa (by omega)]
    exact h0
  have hps:∀ p∈t.Conj,p.size≤1000000:=fun p hp=>by have:=KQ hp;omega
  have e0:=AIi t ⟨0,0,[],[],false⟩ t.Conj [] (by simp;omega) hps
  have e1:=key t.Conj t ⟨0,0,[],[],false⟩ t.Kids [] (by simp;omega) (fun y hy=>hy)
  simp only[List.nil_append,List.length_nil] at e0 e1
  rw[show ((0:Nat):Int)=0 from rfl] at e0 e1
  rw[BW,e0]
  simp -implicitDefEqProofs only[Option.bind_eq_bind,Option.bind_some]
  rw[e1]
  obtain⟨a,b,c,d,e⟩:=t
  rfl
theorem Kc (t:AA):t.size≤1000000→Ch (t,t)=some true:=by
 induction t using AA.induct with
 | h t ih =>
  intro hsz
  have hk:=NG t
  have hc:=LI t
  have key:∀ n i,t.Kids.length - i=n→i≤t.Kids.length→Ch.l0 ((i:Int),t,t)=some (.brk ()):=by
   intro n
   induction n with
   | zero=>intro i h1 h2;rw[Ch.l0,if_neg (dge (by dsimp only;omega))]
   | succ n ihn =>
    intro i h1 h2
    have hi:i<t.Kids.length:=by omega
    rw[Ch.l0,if_pos (dlt (by dsimp only;omega))]
    dsimp only
    rw[Ai hi]
    simp -implicitDefEqProofs only[Option.bind_eq_bind,Option.bind_some]
    have hm:=List.getElem_mem hi
    have hs2:=Cc hm
    rw[ih _ hm (by omega)]
    simp -implicitDefEqProofs only[Option.bind_some]
    rw[if_pos trivial,Aa (by omega)]
    exact ihn (i+1) (by omega) (by omega)
  have h0:=key t.Kids.length 0 (by omega) (by omega)
  rw[show ((0:Nat):Int)=0 from rfl] at h0
  rw[Ch]
  dsimp only
  rw[if_neg (by simp),if_neg (by simp),YD _ _ (by omega) (fun p hp=>by have:=KQ hp;omega),h0]
  cases t.Hash with
  | true=>rw[if_pos rfl,if_pos rfl,if_neg (by simp)];simp
  | false=>rw[if_neg (by simp),if_neg (by simp),if_neg (by simp)];simp
end
section
theorem ALL:okF Tryz.f88=true:=by kernel_rfl
def EA (x:AC):Option (Int) :=
 some (w64 ((BitVec.ofInt 64 (w64 (((((((((((((x >>> (1#64).toNat)&&&6148914691236517205#64)+(x&&&6148914691236517205#64)) >>> (2#64).toNat)&&&3689348814741910323#64)+((((x >>> (1#64).toNat)&&&6148914691236517205#64)+(x&&&6148914691236517205#64))&&&3689348814741910323#64)) >>> (4#64).toNat)+((((((x >>> (1#64).toNat)&&&6148914691236517205#64)+(x&&&6148914691236517205#64)) >>> (2#64).toNat)&&&3689348814741910323#64)+((((x >>> (1#64).toNat)&&&6148914691236517205#64)+(x&&&6148914691236517205#64))&&&3689348814741910323#64)))&&&1085102592571150095#64)+((((((((((x >>> (1#64).toNat)&&&6148914691236517205#64)+(x&&&6148914691236517205#64)) >>> (2#64).toNat)&&&3689348814741910323#64)+((((x >>> (1#64).toNat)&&&6148914691236517205#64)+(x&&&6148914691236517205#64))&&&3689348814741910323#64)) >>> (4#64).toNat)+((((((x >>> (1#64).toNat)&&&6148914691236517205#64)+(x&&&6148914691236517205#64)) >>> (2#64).toNat)&&&3689348814741910323#64)+((((x >>> (1#64).toNat)&&&6148914691236517205#64)+(x&&&6148914691236517205#64))&&&3689348814741910323#64)))&&&1085102592571150095#64) >>> (8#64).toNat))+(((((((((((x >>> (1#64).toNat)&&&6148914691236517205#64)+(x&&&6148914691236517205#64)) >>> (2#64).toNat)&&&3689348814741910323#64)+((((x >>> (1#64).toNat)&&&6148914691236517205#64)+(x&&&6148914691236517205#64))&&&3689348814741910323#64)) >>> (4#64).toNat)+((((((x >>> (1#64).toNat)&&&6148914691236517205#64)+(x&&&6148914691236517205#64)) >>> (2#64).toNat)&&&3689348814741910323#64)+((((x >>> (1#64).toNat)&&&6148914691236517205#64)+(x&&&6148914691236517205#64))&&&3689348814741910323#64)))&&&1085102592571150095#64)+((((((((((x >>> (1#64).toNat)&&&6148914691236517205#64)+(x&&&6148914691236517205#64)) >>> (2#64).toNat)&&&3689348814741910323#64)+((((x >>> (1#64).toNat)&&&6148914691236517205#64)+(x&&&6148914691236517205#64))&&&3689348814741910323#64)) >>> (4#64).toNat)+((((((x >>> (1#64).toNat)&&&6148914691236517205#64)+(x&&&6148914691236517205#64)) >>> (2#64).toNat)&&&3689348814741910323#64)+((((x >>> (1#64).toNat)&&&6148914691236517205#64)+(x&&&6148914691236517205#64))&&&3689348814741910323#64)))&&&1085102592571150095#64) >>> (8#64).toNat)) >>> (16#64).toNat))+((((((((((((x >>> (1#64).toNat)&&&6148914691236517205#64)+(x&&&6148914691236517205#64)) >>> (2#64).toNat)&&&3689348814741910323#64)+((((x >>> (1#64).toNat)&&&6148914691236517205#64)+(x&&&6148914691236517205#64))&&&3689348814741910323#64)) >>> (4#64).toNat)+((((((x >>> (1#64).toNat)&&&6148914691236517205#64)+(x&&&6148914691236517205#64)) >>> (2#64).toNat)&&&3689348814741910323#64)+((((x >>> (1#64).toNat)&&&6148914691236517205#64)+(x&&&6148914691236517205#64))&&&3689348814741910323#64)))&&&1085102592571150095#64)+((((((((((x >>> (1#64).toNat)&&&6148914691236517205#64)+(x&&&6148914691236517205#64)) >>> (2#64).toNat)&&&3689348814741910323#64)+((((x >>> (1#64).toNat)&&&6148914691236517205#64)+(x&&&6148914691236517205#64))&&&3689348814741910323#64)) >>> (4#64).toNat)+((((((x >>> (1#64).toNat)&&&6148914691236517205#64)+(x&&&6148914691236517205#64)) >>> (2#64).toNat)&&&3689348814741910323#64)+((((x >>> (1#64).toNat)&&&6148914691236517205#64)+(x&&&6148914691236517205#64))&&&3689348814741910323#64)))&&&1085102592571150095#64) >>> (8#64).toNat))+(((((((((((x >>> (1#64).toNat)&&&6148914691236517205#64)+(x&&&6148914691236517205#64)) >>> (2#64).toNat)&&&3689348814741910323#64)+((((x >>> (1#64).toNat)&&&6148914691236517205#64)+(x&&&6148914691236517205#64))&&&3689348814741910323#64)) >>> (4#64).toNat)+((((((x >>> (1#64).toNat)&&&6148914691236517205#64)+(x&&&6148914691236517205#64)) >>> (2#64).toNat)&&&3689348814741910323#64)+((((x >>> (1#64).toNat)&&&6148914691236517205#64)+(x&&&6148914691236517205#64))&&&3689348814741910323#64)))&&&1085102592571150095#64)+((((((((((x >>> (1#64).toNat)&&&6148914691236517205#64)+(x&&&6148914691236517205#64)) >>> (2#64).toNat)&&&3689348814741910323#64)+((((x >>> (1#64).toNat)&&&6148914691236517205#64)+(x&&&6148914691236517205#64))&&&3689348814741910323#64)) >>> (4#64).toNat)+((((((x >>> (1#64).toNat)&&&6148914691236517205#64)+(x&&&6148914691236517205#64)) >>> (2#64).toNat)&&&3689348814741910323#64)+((((x >>> (1#64).toNat)&&&6148914691236517205#64)+(x&&&6148914691236517205#64))&&&3689348814741910323#64)))&&&1085102592571150095#64) >>> (8#64).toNat)) >>> (16#64).toNat)) >>> (32#64).toNat)).toNat:Int))&&&BitVec.ofInt 64 127).toNat:Int))
instance EA.w:AH EA (fun x r=>Fn Tryz.prog 88 [.w x] (.i64 r)):=⟨by
 intro x r h
 rw[EA] at h
 try dsimp only
 refine Fn.of_lc mix ANZ ALL (by rfl) (flC (.atom _) (flN)) (.atom _) ?_
 simp -implicitDefEqProofs only[go_sem,Tryz.f88]
 exact AR⟩
end
section
theorem AK4:okF Tryz.f50=true:=by kernel_rfl
def FV (x:AC):Option (Int) :=
 EA x>>=fun r1 =>
 some r1
instance FV.w:AH FV (fun x r=>Fn Tryz.prog 50 [.w x] (.i64 r)):=⟨by
 intro x r h
 rw[FV] at h
 try dsimp only
 refine Fn.of_lc mix ANT AK4 (by rfl) (flC (.atom _) (flN)) (.atom _) ?_
 simp -implicitDefEqProofs only[go_sem,Tryz.f50]
 exact AR⟩
end
section
def II (k:Nat):Nat→Nat→Nat
 | 0,_=>0
 | n+1,N=>N % 2 ^ k+II k n (N / 2 ^ k)
def DQ (k:Nat):Nat→Nat
 | 0=>0
 | n+1=>(2 ^ k - 1)+2 ^ (2 * k) * DQ k n
theorem Wz (k a b c d:Nat) (ha:a<2 ^ k) (hc:c<2 ^ k):(a+2 ^ k * b)&&&(c+2 ^ k * d)=(a&&&c)+2 ^ k * (b&&&d):=by
 have hac:(a&&&c)<2 ^ k:=Nat.lt_of_le_of_lt Nat.and_le_left ha
 apply Nat.eq_of_testBit_eq
 intro i
 rw[Nat.testBit_and,Nat.add_comm a,Nat.add_comm c,Nat.add_comm (a&&&c),Nat.testBit_two_pow_mul_add _ ha,Nat.testBit_two_pow_mul_add _ hc,Nat.testBit_two_pow_mul_add _ hac]
 split
 ·rw[Nat.testBit_and]
 ·rw[Nat.testBit_and]
theorem AJZ (k a:Nat) (ha:a<2 ^ k):a&&&(2 ^ k - 1)=a:=by
 rw[Nat.and_two_pow_sub_one_eq_mod];exact Nat.mod_eq_of_lt ha
theorem KL (k:Nat) (n N:Nat):N&&&DQ k (n+1)=N % 2 ^ k+2 ^ (2 * k) * (N / 2 ^ (2 * k)&&&DQ k n):=by
 have hp:0<2 ^ k:=Nat.pow_pos (by omega)
 have e2:(2:Nat) ^ (2 * k)=2 ^ k * 2 ^ k:=by rw[Nat.two_mul,Nat.pow_add]
 have h1:N=N % 2 ^ k+2 ^ k * (N / 2 ^ k % 2 ^ k+2 ^ k * (N / 2 ^ (2 * k))):=by
  rw[e2,← Nat.div_div_eq_div_mul,Nat.mod_add_div,Nat.mod_add_div]
 have h2:DQ k (n+1)=(2 ^ k - 1)+2 ^ k * (0+2 ^ k * DQ k n):=by
  rw[DQ,e2,Nat.zero_add,Nat.mul_assoc]
 have hm:N % 2 ^ k<2 ^ k:=Nat.mod_lt _ hp
 conv=>lhs;rw[h1,h2]
 rw[Wz k _ _ _ _ hm (by omega),Wz k _ _ _ _ (Nat.mod_lt _ hp) hp,Nat.and_zero,AJZ k _ hm,Nat.zero_add,e2,Nat.mul_assoc]
theorem UA (k:Nat) (hk:1≤k):∀ (n N:Nat),II (2 * k) n ((N / 2 ^ k&&&DQ k n)+(N&&&DQ k n))=II k (2 * n) N:=by
 have hp:0<2 ^ k:=Nat.pow_pos (by omega)
 have e2:(2:Nat) ^ (2 * k)=2 ^ k * 2 ^ k:=by rw[Nat.two_mul,Nat.pow_add]
 have hk2:2 * 2 ^ k≤2 ^ k * 2 ^ k:=Nat.mul_le_mul_right _ (by have:=Nat.pow_le_pow_right (show 0<2 by omega) hk;omega)
 intro n
 induction n with
 | zero=>intro N;rfl
 | succ n ih =>
  intro N
  rw[KL,KL]
  have h1:N / 2 ^ k / 2 ^ (2 * k)=N / 2 ^ (2 * k) / 2 ^ k:=by rw[Nat.div_div_eq_div_mul,Nat.div_div_eq_div_mul,Nat.mul_comm]
  rw[h1]
  have hd1:=Nat.mod_lt (N / 2 ^ k) hp
  have hd0:=Nat.mod_lt N hp
  have h2:N / 2 ^ k % 2 ^ k+2 ^ (2 * k) * (N / 2 ^ (2 * k) / 2 ^ k&&&DQ k n)+(N % 2 ^ k+2 ^ (2 * k) * (N / 2 ^ (2 * k)&&&DQ k n))=(N / 2 ^ k % 2 ^ k+N % 2 ^ k)+2 ^ (2 * k) * ((N / 2 ^ (2 * k) / 2 ^ k&&&DQ k n)+(N / 2 ^ (2 * k)&&&DQ k n)):=by
   rw[Nat.mul_add];omega
  rw[h2,II,show 2 * (n+1)=2 * n+1+1 by omega,II,II]
  have hlt:N / 2 ^ k % 2 ^ k+N % 2 ^ k<2 ^ (2 * k):=by rw[e2];omega
  rw[Nat.add_mul_mod_self_left,Nat.mod_eq_of_lt hlt,Nat.add_mul_div_left _ _ (Nat.pow_pos (by omega)),Nat.div_eq_of_lt hlt,Nat.zero_add,ih]
  rw[Nat.div_div_eq_div_mul N,← e2]
  omega
theorem AD9:∀ (n N:Nat),II 1 n N=((List.range n).filter fun i=>N.testBit i).length:=by
 intro n
 induction n with
 | zero=>intro N;rfl
 | succ n ih =>
  intro N
  rw[II,ih,List.range_succ_eq_map,List.filter_cons]
  have h:((List.map Nat.succ (List.range n)).filter fun i=>N.testBit i).length=((List.range n).filter fun i=>(N / 2 ^ 1).testBit i).length:=by
   rw[List.filter_map,List.length_map]
   congr 1
   refine List.filter_congr fun i _=>?_
   simp[Nat.testBit_succ]
  have hb:N.testBit 0=decide (N % 2=1):=Nat.testBit_zero N
  rw[hb]
  by_cases h2:N % 2=1
  ·rw[decide_eq_true h2,if_pos rfl,List.length_cons,h];simp[h2];omega
  ·rw[decide_eq_false h2,if_neg (by simp),h];have:N % 2=0:=by omega
   simp[this]
def Dg (k c:Nat):Nat→Nat→Prop
 | 0,_=>True
 | n+1,N=>N % 2 ^ k≤c∧Dg k c n (N / 2 ^ k)
theorem ABf (k:Nat) (hk:1≤k):∀ (n N:Nat),Dg (2 * k) (2 * 2 ^ k - 2) n ((N / 2 ^ k&&&DQ k n)+(N&&&DQ k n)):=by
 have hp:0<2 ^ k:=Nat.pow_pos (by omega)
 have e2:(2:Nat) ^ (2 * k)=2 ^ k * 2 ^ k:=by rw[Nat.two_mul,Nat.pow_add]
 have hk2:2 * 2 ^ k≤2 ^ k * 2 ^ k:=Nat.mul_le_mul_right _ (by have:=Nat.pow_le_pow_right (show 0<2 by omega) hk;omega)
 intro n
 induction n with
 | zero=>intro N;trivial
 | succ n ih =>
  intro N
  rw[KL,KL]
  have h1:N / 2 ^ k / 2 ^ (2 * k)=N / 2 ^ (2 * k) / 2 ^ k:=by rw[Nat.div_div_eq_div_mul,Nat.div_div_eq_div_mul,Nat.mul_comm]
  rw[h1]
  have hd1:=Nat.mod_lt (N / 2 ^ k) hp
  have hd0:=Nat.mod_lt N hp
  have h2:N / 2 ^ k % 2 ^ k+2 ^ (2 * k) * (N / 2 ^ (2 * k) / 2 ^ k&&&DQ k n)+(N % 2 ^ k+2 ^ (2 * k) * (N / 2 ^ (2 * k)&&&DQ k n))=(N / 2 ^ k % 2 ^ k+N % 2 ^ k)+2 ^ (2 * k) * ((N / 2 ^ (2 * k) / 2 ^ k&&&DQ k n)+(N / 2 ^ (2 * k)&&&DQ k n)):=by
   rw[Nat.mul_add];omega
  rw[h2]
  have hlt:N / 2 ^ k % 2 ^ k+N % 2 ^ k<2 ^ (2 * k):=by rw[e2];omega
  refine⟨?_,?_⟩
  ·rw[Nat.add_mul_mod_self_left,Nat.mod_eq_of_lt hlt];omega
  ·rw[Nat.add_mul_div_left _ _ (Nat.pow_pos (by omega)),Nat.div_eq_of_lt hlt,Nat.zero_add];exact ih _
theorem AGx:∀ (n N:Nat),Dg 4 7 (2 * n+1) N→(N / 2 ^ 4+N)&&&DQ 4 n=(N / 2 ^ 4&&&DQ 4 n)+(N&&&DQ 4 n):=by
 intro n
 induction n with
 | zero=>intro N _;simp[DQ]
 | succ n ih =>
  intro N h
  rw[show 2 * (n+1)+1=2 * n+1+1+1 by omega] at h
  obtain⟨h0,h1,h2⟩:=h
  have h3:N / 2 ^ 4 / 2 ^ 4 % 2 ^ 4≤7:=h2.1
  have h4:=ih (N / 2 ^ 4 / 2 ^ 4) h2
  have h0':N % 16≤7:=h0
  have h1':N / 16 % 16≤7:=h1
  have h3':N / 16 / 16 % 16≤7:=h3
  have h4':(N / 16 / 16 / 16+N / 16 / 16)&&&DQ 4 n=(N / 16 / 16 / 16&&&DQ 4 n)+(N / 16 / 16&&&DQ 4 n):=h4
  clear h0 h1 h3 h4 h2 ih
  have k1:=KL 4 n (N / 16+N)
  have k2:=KL 4 n (N / 16)
  have k3:=KL 4 n N
  rw[show (2:Nat) ^ (2 * 4)=256 from rfl,show (2:Nat) ^ 4=16 from rfl] at k1 k2 k3
  show (N / 16+N)&&&DQ 4 (n+1)=(N / 16&&&DQ 4 (n+1))+(N&&&DQ 4 (n+1))
  have a1:(N / 16+N) / 256=N / 16 / 16 / 16+N / 16 / 16:=by omega
  have a2:(N / 16+N) % 16=N / 16 % 16+N % 16:=by omega
  have a3:N / 16 / 256=N / 16 / 16 / 16:=by omega
  have a4:N / 256=N / 16 / 16:=by omega
  rw[k1,k2,k3,a1,a2,a3,a4,h4',Nat.mul_add]
  omega
theorem AMP:DQ 1 32=6148914691236517205:=by decide
theorem AMK:DQ 2 16=3689348814741910323:=by decide
theorem ALV:DQ 4 8=1085102592571150095:=by decide
theorem AJf {k c:Nat}:∀ {n:Nat},Dg k c n 0:=by
 intro n
 induction n with
 | zero=>trivial
 | succ n ih=>exact⟨by simp,by simpa using ih⟩
theorem AIZ {k c:Nat}:∀ {n m N:Nat},N<2 ^ (k * n)→Dg k c n N→Dg k c m N:=by
 intro n
 induction n with
 | zero =>
      intro m N hN _;obtain rfl:N=0:=by simpa using hN
      exact AJf
 | succ n ih =>
  intro m N hN h
  cases m with
  | zero=>trivial
  | succ m =>
   refine⟨h.1,ih ?_ h.2⟩
   rw[Nat.div_lt_iff_lt_mul (Nat.pow_pos (by omega)),← Nat.pow_add]
   rwa [show k * n+k=k * (n+1) by rw[Nat.mul_succ]]
theorem AEF {N:Nat} (hNlt:N<2 ^ 64) (e0:N % 256≤30) (e1:N / 256 % 256≤30) (e2:N / 256 / 256 % 256≤30) (e3:N / 256 / 256 / 256 % 256≤30) (e4:N / 256 / 256 / 256 / 256 % 256≤30) (e5:N / 256 / 256 / 256 / 256 / 256 % 256≤30) (e6:N / 256 / 256 / 256 / 256 / 256 / 256 % 256≤30) (e7:N / 256 / 256 / 256 / 256 / 256 / 256 / 256 % 256≤30):N≤2170205185142300190:=by
 have u1:N / 256<72057594037927936:=by have:=hNlt;omega
 have u2:N / 256 / 256<281474976710656:=by have:=u1;omega
 have u3:N / 256 / 256 / 256<1099511627776:=by have:=u2;omega
 have u4:N / 256 / 256 / 256 / 256<4294967296:=by have:=u3;omega
 have u5:N / 256 / 256 / 256 / 256 / 256<16777216:=by have:=u4;omega
 have u6:N / 256 / 256 / 256 / 256 / 256 / 256<65536:=by have:=u5;omega
 have u7:N / 256 / 256 / 256 / 256 / 256 / 256 / 256<256:=by have:=u6;omega
 have v7:N / 256 / 256 / 256 / 256 / 256 / 256 / 256≤30:=by omega
 have v6:N / 256 / 256 / 256 / 256 / 256 / 256≤7710:=by have:=v7;omega
 have v5:N / 256 / 256 / 256 / 256 / 256≤1973790:=by have:=v6;omega
 have v4:N / 256 / 256 / 256 / 256≤505290270:=by have:=v5;omega
 have v3:N / 256 / 256 / 256≤129354309150:=by have:=v4;omega
 have v2:N / 256 / 256≤33114703142430:=by have:=v3;omega
 have v1:N / 256≤8477364004462110:=by have:=v2;omega
 have v0:N≤2170205185142300190:=by have:=v1;omega
 exact v0
theorem Yk {a lo h n:Nat} (e:a=lo+n * h) (hl:lo<n):a / n=h:=by
 rw[e,Nat.add_mul_div_left _ _ (by omega),Nat.div_eq_of_lt hl,Nat.zero_add]
theorem AMH {a s t:Nat} (e:a=s+256 * t) (hs:s≤64):a % 128=s:=by omega
theorem AJT {N e0 e1 e2 e3 e4 e5 e6 e7:Nat} (hN:N=e0+256 * e1+65536 * e2+16777216 * e3+4294967296 * e4+1099511627776 * e5+281474976710656 * e6+72057594037927936 * e7) (h0:e0≤30) (h1:e1≤30) (h2:e2≤30) (h3:e3≤30) (h4:e4≤30) (h5:e5≤30) (h6:e6≤30) (h7:e7≤30) (hs:e0+e1+e2+e3+e4+e5+e6+e7≤64) :
  (((N+N / 256)+(N+N / 256) / 65536)+((N+N / 256)+(N+N / 256) / 65536) / 4294967296) % 128=e0+e1+e2+e3+e4+e5+e6+e7:=by
 have a1:N / 256=e1+256 * e2+65536 * e3+16777216 * e4+4294967296 * e5+1099511627776 * e6+281474976710656 * e7:=Yk (lo:=e0) (by rw[hN];clear hN hs;omega) (by omega)
 have a2:N+N / 256=(e0+e1)+256 * (e1+e2)+65536 * (e2+e3)+16777216 * (e3+e4)+4294967296 * (e4+e5)+1099511627776 * (e5+e6)+281474976710656 * (e6+e7)+72057594037927936 * e7:=by rw[a1,hN];clear a1 hN hs h0 h1 h2 h3 h4 h5 h6 h7;omega
 generalize N+N / 256=M at *
 clear hN a1
 have a3:M / 65536=(e2+e3)+256 * (e3+e4)+65536 * (e4+e5)+16777216 * (e5+e6)+4294967296 * (e6+e7)+1099511627776 * e7:=Yk (lo:=(e0+e1)+256 * (e1+e2)) (by rw[a2];clear a2 hs h0 h1 h2 h3 h4 h5 h6 h7;omega) (by clear a2;omega)
 have a4:M+M / 65536=((e0+e1)+(e2+e3))+256 * ((e1+e2)+(e3+e4))+65536 * ((e2+e3)+(e4+e5))+16777216 * ((e3+e4)+(e5+e6))+4294967296 * ((e4+e5)+(e6+e7))+1099511627776 * ((e5+e6)+e7)+281474976710656 * (e6+e7)+72057594037927936 * e7:=by rw[a3,a2];clear a3 a2 hs h0 h1 h2 h3 h4 h5 h6 h7;omega
 generalize M+M / 65536=K at *
 clear a2 a3
 have a5:K / 4294967296=((e4+e5)+(e6+e7))+256 * ((e5+e6)+e7)+65536 * (e6+e7)+16777216 * e7:=Yk (lo:=((e0+e1)+(e2+e3))+256 * ((e1+e2)+(e3+e4))+65536 * ((e2+e3)+(e4+e5))+16777216 * ((e3+e4)+(e5+e6))) (by rw[a4];clear a4 hs h0 h1 h2 h3 h4 h5 h6 h7;omega) (by clear a4;omega)
 refine AMH (t:=(((e1+e2)+(e3+e4))+((e5+e6)+e7))+256 * (((e2+e3)+(e4+e5))+(e6+e7))+65536 * (((e3+e4)+(e5+e6))+e7)+16777216 * ((e4+e5)+(e6+e7))+4294967296 * ((e5+e6)+e7)+1099511627776 * (e6+e7)+281474976710656 * e7) ?_ hs
 rw[a5,a4]
 clear a5 a4 hs h0 h1 h2 h3 h4 h5 h6 h7
 omega
theorem AFC {N:Nat} (hNlt:N<2 ^ 64):N=(N % 256)+256 * (N / 256 % 256)+65536 * (N / 256 / 256 % 256)+16777216 * (N / 256 / 256 / 256 % 256)+4294967296 * (N / 256 / 256 / 256 / 256 % 256)+1099511627776 * (N / 256 / 256 / 256 / 256 / 256 % 256)+281474976710656 * (N / 256 / 256 / 256 / 256 / 256 / 256 % 256)+72057594037927936 * (N / 256 / 256 / 256 / 256 / 256 / 256 / 256 % 256):=by
 have u1:N / 256<72057594037927936:=by have:=hNlt;omega
 have u2:N / 256 / 256<281474976710656:=by have:=u1;omega
 have u3:N / 256 / 256 / 256<1099511627776:=by clear u1;have:=u2;omega
 have u4:N / 256 / 256 / 256 / 256<4294967296:=by clear u1 u2;have:=u3;omega
 have u5:N / 256 / 256 / 256 / 256 / 256<16777216:=by clear u1 u2 u3;have:=u4;omega
 have u6:N / 256 / 256 / 256 / 256 / 256 / 256<65536:=by clear u1 u2 u3 u4;have:=u5;omega
 have u7:N / 256 / 256 / 256 / 256 / 256 / 256 / 256<256:=by clear u1 u2 u3 u4 u5;have:=u6;omega
 have r7:N / 256 / 256 / 256 / 256 / 256 / 256 / 256 % 256=N / 256 / 256 / 256 / 256 / 256 / 256 / 256:=Nat.mod_eq_of_lt u7
 have r0:=Nat.mod_add_div (N) 256
 have r1:=Nat.mod_add_div (N / 256) 256
 have r2:=Nat.mod_add_div (N / 256 / 256) 256
 have r3:=Nat.mod_add_div (N / 256 / 256 / 256) 256
 have r4:=Nat.mod_add_div (N / 256 / 256 / 256 / 256) 256
 have r5:=Nat.mod_add_div (N / 256 / 256 / 256 / 256 / 256) 256
 have r6:=Nat.mod_add_div (N / 256 / 256 / 256 / 256 / 256 / 256) 256
 clear u1 u2 u3 u4 u5 u6 u7 hNlt
 generalize N % 256=d0 at *
 generalize N / 256=A1 at *
 generalize A1 % 256=d1 at *
 generalize A1 / 256=A2 at *
 generalize A2 % 256=d2 at *
 generalize A2 / 256=A3 at *
 generalize A3 % 256=d3 at *
 generalize A3 / 256=A4 at *
 generalize A4 % 256=d4 at *
 generalize A4 / 256=A5 at *
 generalize A5 % 256=d5 at *
 generalize A5 / 256=A6 at *
 generalize A6 % 256=d6 at *
 generalize A6 / 256=A7 at *
 generalize A7 % 256=d7 at *
 omega
def oc1 (x:AC):AC:=((x >>> (1#64).toNat)&&&6148914691236517205#64)+(x&&&6148914691236517205#64)
def oc2 (x:AC):AC:=((x >>> (2#64).toNat)&&&3689348814741910323#64)+(x&&&3689348814741910323#64)
def oc3 (x:AC):AC:=((x >>> (4#64).toNat)+x)&&&1085102592571150095#64
def oc4 (x:AC):AC:=x+(x >>> (8#64).toNat)
def oc5 (x:AC):AC:=x+(x >>> (16#64).toNat)
def oc6 (x:AC):AC:=x+(x >>> (32#64).toNat)
theorem AGA (x:AC):EA x=some (w64 ((BitVec.ofInt 64 (w64 ((oc6 (oc5 (oc4 (oc3 (oc2 (oc1 x)))))).toNat:Int))&&&BitVec.ofInt 64 127).toNat:Int)):=rfl
theorem AIU (x:AC):(oc1 x).toNat=(x.toNat / 2 ^ 1&&&DQ 1 32)+(x.toNat&&&DQ 1 32):=by
 unfold oc1
 rw[BitVec.toNat_add,BitVec.toNat_and,BitVec.toNat_and,BitVec.toNat_ushiftRight,Nat.shiftRight_eq_div_pow,AMP]
 have h1:(x.toNat / 2 ^ 1&&&6148914691236517205)≤6148914691236517205:=Nat.and_le_right
 have h2:(x.toNat&&&6148914691236517205)≤6148914691236517205:=Nat.and_le_right
 exact Nat.mod_eq_of_lt (by show (x.toNat / 2 ^ 1&&&6148914691236517205)+(x.toNat&&&6148914691236517205)<_;omega)
theorem ABO (x:AC):(oc2 x).toNat=(x.toNat / 2 ^ 2&&&DQ 2 16)+(x.toNat&&&DQ 2 16):=by
 unfold oc2
 rw[BitVec.toNat_add,BitVec.toNat_and,BitVec.toNat_and,BitVec.toNat_ushiftRight,Nat.shiftRight_eq_div_pow,AMK]
 have h1:(x.toNat / 2 ^ 2&&&3689348814741910323)≤3689348814741910323:=Nat.and_le_right
 have h2:(x.toNat&&&3689348814741910323)≤3689348814741910323:=Nat.and_le_right
 exact Nat.mod_eq_of_lt (by show (x.toNat / 2 ^ 2&&&3689348814741910323)+(x.toNat&&&3689348814741910323)<_;omega)
theorem AIP (x:AC) (h:Dg 4 7 17 x.toNat):(oc3 x).toNat=(x.toNat / 2 ^ 4&&&DQ 4 8)+(x.toNat&&&DQ 4 8):=by
 have hx:=x.isLt
 have htop:x.toNat / 16 / 16 / 16 / 16 / 16 / 16 / 16 / 16 / 16 / 16 / 16 / 16 / 16 / 16 / 16 % 16≤7:=by
  have:=h.2.2.2.2.2.2.2.2.2.2.2.2.2.2.2.1
  simpa using this
 unfold oc3
 rw[BitVec.toNat_and,BitVec.toNat_add,BitVec.toNat_ushiftRight,Nat.shiftRight_eq_div_pow]
 have e:(x.toNat / 2 ^ (4#64).toNat+x.toNat) % 2 ^ 64=x.toNat / 2 ^ 4+x.toNat:=Nat.mod_eq_of_lt (by show x.toNat / 16+x.toNat<_;omega)
 rw[e,← AGx 8 x.toNat h,ALV];rfl
theorem AJD (x:AC):EA x=some ((BS x).length:Int):=by
 let X1:=oc1 x
 let X2:=oc2 X1
 let X3:=oc3 X2
 have s1:II 2 32 X1.toNat=II 1 64 x.toNat:=by
  show II (2 * 1) 32 (oc1 x).toNat=_
  rw[AIU];exact UA 1 (Nat.le_refl _) 32 x.toNat
 have s2:II 4 16 X2.toNat=II 2 32 X1.toNat:=by
  show II (2 * 2) 16 (oc2 X1).toNat=_
  rw[ABO];exact UA 2 (by omega) 16 X1.toNat
 have d2:Dg 4 7 17 X2.toNat:=by
  have h:=ABf 2 (by omega) 16 X1.toNat
  rw[← ABO] at h
  have h':Dg 4 6 16 X2.toNat:=h
  have up:∀ n N,Dg 4 6 n N→Dg 4 7 n N:=by
   intro n
   induction n with
   | zero=>intro N _;trivial
   | succ n ih=>intro N h;exact⟨by have:=h.1;omega,ih _ h.2⟩
  exact AIZ (n:=16) X2.isLt (up _ _ h')
 have n3:=AIP X2 d2
 have s3:II 8 8 X3.toNat=II 4 16 X2.toNat:=by
  show II (2 * 4) 8 (oc3 X2).toNat=_
  rw[n3];exact UA 4 (by omega) 8 X2.toNat
 have d3:Dg 8 30 8 X3.toNat:=by
  have h:=ABf 4 (by omega) 8 X2.toNat
  rw[← n3] at h
  exact h
 have cnt:II 8 8 X3.toNat=(BS x).length:=by
  rw[s3,s2,s1,AD9]
  unfold BS
  rw[List.length_map];rfl
 have hle:=Ww x
 obtain⟨e0,e1,e2,e3,e4,e5,e6,e7,_⟩:=d3
 simp only[II] at cnt
 rw[show (2:Nat) ^ 8=256 from rfl] at *
 rw[AGA]
 show some (w64 ((BitVec.ofInt 64 (w64 ((oc6 (oc5 (oc4 X3))).toNat:Int))&&&BitVec.ofInt 64 127).toNat:Int))=_
 generalize hN:X3.toNat=N at *
 have hNlt:N<2 ^ 64:=by rw[← hN];exact X3.isLt
 have hNb:=AEF hNlt e0 e1 e2 e3 e4 e5 e6 e7
 have y1:(oc4 X3).toNat=N+N / 256:=by
  unfold oc4
  rw[BitVec.toNat_add,BitVec.toNat_ushiftRight,Nat.shiftRight_eq_div_pow,hN]
  show (N+N / 256) % 2 ^ 64=_
  omega
 have y2:(oc5 (oc4 X3)).toNat=(N+N / 256)+(N+N / 256) / 65536:=by
  unfold oc5
  rw[BitVec.toNat_add,BitVec.toNat_ushiftRight,Nat.shiftRight_eq_div_pow,y1]
  show ((N+N / 256)+(N+N / 256) / 65536) % 2 ^ 64=_
  omega
 have y3:(oc6 (oc5 (oc4 X3))).toNat=((N+N / 256)+(N+N / 256) / 65536)+((N+N / 256)+(N+N / 256) / 65536) / 4294967296:=by
  unfold oc6
  rw[BitVec.toNat_add,BitVec.toNat_ushiftRight,Nat.shiftRight_eq_div_pow,y2]
  show (((N+N / 256)+(N+N / 256) / 65536)+((N+N / 256)+(N+N / 256) / 65536) / 4294967296) % 2 ^ 64=_
  omega
 generalize hY:oc6 (oc5 (oc4 X3))=Y at *
 have hY63:Y.toNat<9223372036854775808:=by omega
 have hw:w64 (Y.toNat:Int)=(Y.toNat:Int):=Gx (by omega) (by omega)
 rw[hw,BitVec.ofInt_natCast,BitVec.ofNat_toNat,BitVec.setWidth_eq]
 have hand:(Y&&&BitVec.ofInt 64 127).toNat=Y.toNat % 128:=by
  rw[BitVec.toNat_and]
  show Y.toNat&&&127=_
  exact Nat.and_two_pow_sub_one_eq_mod Y.toNat 7
 rw[hand]
 have hfin:Y.toNat % 128=(BS x).length:=by
  rw[y3,AJT (AFC hNlt) e0 e1 e2 e3 e4 e5 e6 e7 (by omega)]
  omega
 rw[hfin,Gx (by omega) (by omega)]
theorem Lu (x:AC):FV x=some ((BS x).length:Int):=by
 unfold FV
 rw[AJD];rfl
end
section
theorem AMa:okF Tryz.f70=true:=by kernel_rfl
def DS (x:AG × AG):Option (Bool) :=
 if(decide (x.1.costs<x.2.costs))=true then
  some true
 else
  if(x.1.costs == x.2.costs)=true then
   some (decide (x.1.first<x.2.first))
  else
   some false
instance DS.w:AH DS (fun x r=>Fn Tryz.prog 70 [.agg (AG.C x.1),.agg (AG.C x.2)] (.bool r)):=⟨by
 intro x r h
 rw[DS] at h
 try dsimp only
 refine Fn.of_lc mix AMw AMa (by rfl) (flC (AG.flatC _) (flC (AG.flatC _) (flN))) (.atom _) ?_
 simp -implicitDefEqProofs only[go_sem,Tryz.f70]
 exact AR⟩
end
section
@[go_sem] theorem APV:lrp Tryz.prog 71 1=(9,[]):=by kernel_rfl
@[go_sem] theorem AP9:lrp Tryz.prog 71 5=(5,[]):=by kernel_rfl
theorem ALu:okF Tryz.f71=true:=by kernel_rfl
def CO.l0 (x:List AB × Int × Int × AA × AA):Option (AA) :=
 if(decide (x.2.2.1<x.2.1))=true then
  (AU x.1 x.2.2.1)>>=fun (e6:AB) =>
  Cn e6>>=fun r8 =>
  (room 128 x.2.2.2.2.Conj ([r8]))>>=fun (z10:List AB) =>
  CO.l0 (x.1,x.2.1,(w64 (x.2.2.1+1)),x.2.2.2.1,(⟨x.2.2.2.2.Kind,x.2.2.2.2.Table,x.2.2.2.2.Kids,z10,x.2.2.2.2.Hash⟩:AA))
 else
  some x.2.2.2.2
 partial_fixpoint
theorem CO.l0.ws:PC CO.l0 (fun x o=>∀ lo c (Q:EP) (hb:∀ s:AA,o=s→Q (.exit 0) ⟨[(6,.lref 6 0),(7,.lref 7 0)],[(6,[.v (.i64 x.2.2.2.1.Kind),.v (.i64 x.2.2.2.1.Table),.own 20000602 5 (x.2.2.2.1.Kids.map AA.av),.own 20000603 14 (x.2.2.2.1.Conj.map AB.av),.v (.bool x.2.2.2.1.Hash)]),(7,[.v (.i64 s.Kind),.v (.i64 s.Table),.v (.slice .foreign (s.Kids.map AA.av)),.own 20000703 14 (s.Conj.map AB.av),.v (.bool s.Hash)])]⟩),AK Tryz.prog 71 lo c 0 (VQ Q) ⟨[(6,.lref 6 0),(7,.lref 7 0),(19,.v (.slice .foreign (x.1.map AB.av))),(20,.v (.i64 x.2.1)),(21,.v (.i64 x.2.2.1))],[(6,[.v (.i64 x.2.2.2.1.Kind),.v (.i64 x.2.2.2.1.Table),.own 20000602 5 (x.2.2.2.1.Kids.map AA.av),.own 20000603 14 (x.2.2.2.1.Conj.map AB.av),.v (.bool x.2.2.2.1.Hash)]),(7,[.v (.i64 x.2.2.2.2.Kind),.v (.i64 x.2.2.2.2.Table),.v (.slice .foreign (x.2.2.2.2.Kids.map AA.av)),.own 20000703 14 (x.2.2.2.2.Conj.map AB.av),.v (.bool x.2.2.2.2.Hash)])]⟩):=by
 refine CO.l0.partial_correctness _ ?_
 ·intro SL Ra x o h
  have AFp:AH SL _:=⟨Ra⟩
  intro lo c Q hb
  refine AK.step mix AH0 (by kernel_rfl) ?_
  simp -implicitDefEqProofs only[go_sem,Tryz.f71]
  exact AR
instance CO.l0.w:type_of% (AH.mk CO.l0.ws):=⟨CO.l0.ws⟩
def CO (x:AS × AA × AA):Option (AA) :=
 BW x.2.1>>=fun r1 =>
 BW x.2.2>>=fun r3 =>
 CO.l0 (x.1.Preds,(x.1.Preds.length:Int),0,(⟨0,0,[],[],false⟩:AA),(⟨x.1.Kind,0,[r1,r3],[],false⟩:AA))>>=fun (o12:AA) =>
 some o12
instance CO.w:AH CO (fun x r=>Fn Tryz.prog 71 [.agg (AS.C x.1),.agg (AA.C x.2.1),.agg (AA.C x.2.2)] (.agg (AA.C r))):=⟨by
 intro x r h
 rw[CO] at h
 try dsimp only
 refine Fn.of_lc mix AH0 ALu (by rfl) (flC (AS.flatC _) (flC (AA.flatC _) (flC (AA.flatC _) (flN)))) (AA.flatC _) ?_
 simp -implicitDefEqProofs only[go_sem,Tryz.f71]
 exact AR⟩
end
section
@[go_sem] theorem APz:lrp Tryz.prog 23 5=(10,[]):=by kernel_rfl
theorem ALJ:okF Tryz.f23=true:=by kernel_rfl
@[go_sem] theorem APe:lrp Tryz.prog 34 4=(6,[4]):=by kernel_rfl
theorem ALp:okF Tryz.f34=true:=by kernel_rfl
@[go_sem] theorem APO:lrp Tryz.prog 27 7=(18,[]):=by kernel_rfl
@[go_sem] theorem AOf:lrp Tryz.prog 27 12=(8,[]):=by kernel_rfl
theorem AJ6:okF Tryz.f27=true:=by kernel_rfl
theorem ALw:okF Tryz.f13=true:=by kernel_rfl
def CZ.l0 (x:List Int × Int × Int × (List (AC × AG)) × AJ):Option ((List (AC × AG))) :=
 if(decide (x.2.2.1<x.2.1))=true then
  (AU x.1 x.2.2.1)>>=fun (e4:Int) =>
  Cd ([e4])>>=fun r6 =>
  CZ.l0 (x.1,x.2.1,(w64 (x.2.2.1+1)),(IE r6 (⟨(⟨0,e4,[],[],false⟩:AA),0#64,0#64⟩:AG) x.2.2.2.1),(⟨x.2.2.2.2.model,()⟩:AJ))
 else
  some x.2.2.2.1
 partial_fixpoint
theorem CZ.l0.ws:PC CZ.l0 (fun x o=>∀ lo c (Q:EP) (hb:∀ s:(List (AC × AG)),o=s→Q (.exit 0) ⟨[(5,.lref 11 0)],[(9,[.mp (GI HZ AG.av s)]),(11,[.v (.i64 x.2.2.2.2.model.Kind),.v (.slice .foreign (x.2.2.2.2.model.Edges.map AD.av)),.v (.slice .foreign (x.2.2.2.2.model.Stats.Rows.map AV.w)),.v (.slice .foreign (x.2.2.2.2.model.Stats.Sel.map AV.w)),.m 9])]⟩),AK Tryz.prog 23 lo c 0 (VQ Q) ⟨[(5,.lref 11 0),(13,.v (.slice .foreign (x.1.map AV.i64))),(14,.v (.i64 x.2.1)),(15,.v (.i64 x.2.2.1))],[(9,[.mp (GI HZ AG.av x.2.2.2.1)]),(11,[.v (.i64 x.2.2.2.2.model.Kind),.v (.slice .foreign (x.2.2.2.2.model.Edges.map AD.av)),.v (.slice .foreign (x.2.2.2.2.model.Stats.Rows.map AV.w)),.v (.slice .foreign (x.2.2.2.2.model.Stats.Sel.map AV.w)),.m 9])]⟩):=by
 refine CZ.l0.partial_correctness _ ?_
 ·intro AFi Qd x o h
  intro lo c Q hb
  refine AK.step mix AHc (by kernel_rfl) ?_
  simp -implicitDefEqProofs only[go_sem,Tryz.f23]
  revert h;refine itE (fun h3 h=>?_) fun h3 h=>?_
  ·try simp -implicitDefEqProofs only[go_sem, *, -h]
   obtain⟨e4,h5,h⟩:=AE h;replace h5:=Dz h5;obtain⟨h5',h5⟩:=h5
   try simp -implicitDefEqProofs only[go_sem, *, -h]
   obtain⟨r6,h7,h⟩:=AE h
   have hw:=Cd.w.w ([e4]) _ h7
   simp -implicitDefEqProofs only[go_sem] at hw
   refine .plain _ _ rfl hw ?_
   clear hw
   try simp -implicitDefEqProofs only[go_sem, *, -h]
   refine LMset.map HZ AG.av (es:=x.2.2.2.1) (k:=r6) (v:=(⟨(⟨0,e4,[],[],false⟩:AA),0#64,0#64⟩:AG)) NA AM (by first | rfl | (first | rfl | simp -implicitDefEqProofs only[go_sem, *] <;> rfl)) AM ?_
   try simp -implicitDefEqProofs only[go_sem, *, -h]
   exact AK.view [] AM (Qd _ _ h lo c Q hb)
  ·try simp -implicitDefEqProofs only[go_sem, *, -h]
   injection h with h;subst h
   exact .inr ⟨[],_,by(simp -implicitDefEqProofs only[go_sem, *] <;> first | done | rfl | trivial),hb _ rfl⟩
instance CZ.l0.w:type_of% (AH.mk CZ.l0.ws):=⟨CZ.l0.ws⟩
def CZ (x:AZ × AC):Option ((List (AC × AG)) × AJ) :=
 Bw x.2>>=fun r1 =>
 CZ.l0 (r1,(r1.length:Int),0,([]:List (AC × AG)),(⟨x.1,()⟩:AJ))>>=fun (o8:(List (AC × AG))) =>
 some (o8,(⟨(⟨((⟨x.1,()⟩:AJ).model).Kind,((⟨x.1,()⟩:AJ).model).Edges,(⟨(((⟨x.1,()⟩:AJ).model).Stats).Rows,(((⟨x.1,()⟩:AJ).model).Stats).Sel⟩:Ay)⟩:AZ),()⟩:AJ))
instance CZ.w:AH CZ (fun x r=>FnN Tryz.prog 23 [.a (.agg (AZ.C x.1)),.a (.w x.2)] (.lref 11 0) [(9,[.mp (GI HZ AG.av r.1)]),(11,[.v (.i64 r.2.model.Kind),.v (.slice .foreign (r.2.model.Edges.map AD.av)),.v (.slice .foreign (r.2.model.Stats.Rows.map AV.w)),.v (.slice .foreign (r.2.model.Stats.Sel.map AV.w)),.m 9])]):=⟨by
 intro x r h
 rw[CZ] at h
 try dsimp only
 refine FnN.of_lc mix AHc ALJ (by rfl) (by rfl) (by rfl) fun c=>?_
 simp -implicitDefEqProofs only[go_sem,Tryz.f23]
 obtain⟨r1,h2,h⟩:=AE h
 refine .plain _ _ rfl (Bw.w.w x.2 _ h2) ?_
 try simp -implicitDefEqProofs only[go_sem]
 obtain⟨o8,h9,h⟩:=AE h
 refine AK.viewQ (AK.view [] AM (CZ.l0.w.w (r1,(r1.length:Int),0,([]:List (AC × AG)),(⟨x.1,()⟩:AJ)) _ h9 _ _ _ ?_))
 intro s' hs';subst hs'
 try simp -implicitDefEqProofs only[go_sem]
 injection h with h;subst h
 refine⟨AM,AM⟩⟩
def EC (x:AC × AJ × (List (AC × AG))):Option (AA × AC × Bool) :=
 QM x.2.2 x.1 ((⟨(⟨0,0,[],[],false⟩:AA),0#64,0#64⟩:AG):AG)>>=fun (v1:AG × Bool) =>
 BW v1.1.thing>>=fun r3 =>
 some (r3,v1.1.costs,v1.2)
instance EC.w:AH EC (fun x r=>FnB Tryz.prog 34 [(3000000,[.v (.i64 x.2.1.model.Kind),.v (.slice .foreign (x.2.1.model.Edges.map AD.av)),.v (.slice .foreign (x.2.1.model.Stats.Rows.map AV.w)),.v (.slice .foreign (x.2.1.model.Stats.Sel.map AV.w)),.m 3000001]),(3000001,[.mp (GI HZ AG.av x.2.2)])] [.p 3000000,.a (.w x.1)] (.tuple [.agg (AA.C r.1),.w r.2.1,.bool r.2.2]) [(3000000,[.v (.i64 x.2.1.model.Kind),.v (.slice .foreign (x.2.1.model.Edges.map AD.av)),.v (.slice .foreign (x.2.1.model.Stats.Rows.map AV.w)),.v (.slice .foreign (x.2.1.model.Stats.Sel.map AV.w)),.m 3000001]),(3000001,[.mp (GI HZ AG.av x.2.2)])]):=⟨by
 intro x r h
 rw[EC] at h
 try dsimp only
 refine FnB.of_lc mix AOD ALp (by rfl) (by rfl) fun c=>?_
 simp -implicitDefEqProofs only[go_sem,Tryz.f34]
 obtain⟨v1,h2,h⟩:=AE h
 refine LLook.map HZ AG.av (es:=x.2.2) (k:=x.1) (z:=((⟨(⟨0,0,[],[],false⟩:AA),0#64,0#64⟩:AG):AG)) h2 NA AM AM (by first | rfl | (first | rfl | simp -implicitDefEqProofs only[go_sem] <;> rfl)) ?_
 try simp -implicitDefEqProofs only[go_sem]
 obtain⟨r3,h4,h⟩:=AE h
 refine .plain _ _ rfl (BW.w.w v1.1.thing _ h4) ?_
 try simp -implicitDefEqProofs only[go_sem]
 injection h with h;subst h
 first | exact⟨AM,[],by rfl,AM⟩ | exact⟨AM,[],by rfl⟩ | exact⟨AM,[],by(simp -implicitDefEqProofs only[go_sem] <;> first | done | rfl | trivial)⟩ | exact⟨[],by rfl,AM⟩ | exact⟨[],by rfl,by(simp -implicitDefEqProofs only[go_sem] <;> first | done | rfl | trivial)⟩⟩
def Dp (x:AS × AC × AC × AJ × (List (AC × AG))):Option (Bool × (List (AC × AG))) :=
 if((x.2.1&&&x.2.2.1) != 0#64)=true then
  some (false,x.2.2.2.2)
 else
  QM x.2.2.2.2 x.2.1 ((⟨(⟨0,0,[],[],false⟩:AA),0#64,0#64⟩:AG):AG)>>=fun (v2:AG × Bool) =>
  QM x.2.2.2.2 x.2.2.1 ((⟨(⟨0,0,[],[],false⟩:AA),0#64,0#64⟩:AG):AG)>>=fun (v4:AG × Bool) =>
  if v2.2=true then
   if v4.2=true then
    Er (x.2.2.2.1.model,x.2.1,x.2.2.1,x.1.Preds)>>=fun r8 =>
    HU ([v2.1.costs,v4.1.costs,r8])>>=fun r10 =>
    QM x.2.2.2.2 (x.2.1|||x.2.2.1) ((⟨(⟨0,0,[],[],false⟩:AA),0#64,0#64⟩:AG):AG)>>=fun (v12:AG × Bool) =>
    if v12.2=true then
     DS ((⟨(⟨0,0,[],[],false⟩:AA),r10,x.2.1⟩:AG),v12.1)>>=fun r15 =>
     if r15=true then
      CO (x.1,v2.1.thing,v4.1.thing)>>=fun r18 =>
      some (true,(IE (x.2.1|||x.2.2.1) (⟨r18,r10,x.2.1⟩:AG) x.2.2.2.2))
     else
      some (false,x.2.2.2.2)
    else
     CO (x.1,v2.1.thing,v4.1.thing)>>=fun r20 =>
     some (true,(IE (x.2.1|||x.2.2.1) (⟨r20,r10,x.2.1⟩:AG) x.2.2.2.2))
   else
    some (false,x.2.2.2.2)
  else
   some (false,x.2.2.2.2)
instance Dp.w:AH Dp (fun x r=>FnB Tryz.prog 27 [(3000000,[.v (.i64 x.2.2.2.1.model.Kind),.v (.slice .foreign (x.2.2.2.1.model.Edges.map AD.av)),.v (.slice .foreign (x.2.2.2.1.model.Stats.Rows.map AV.w)),.v (.slice .foreign (x.2.2.2.1.model.Stats.Sel.map AV.w)),.m 2000001]),(2000001,[.mp (GI HZ AG.av x.2.2.2.2)])] [.p 3000000,.a (.agg [.i64 x.1.Kind,.slice .foreign (x.1.Edges.map AV.i64),.slice .foreign (x.1.Preds.map AB.av)]),.a (.w x.2.1),.a (.w x.2.2.1)] (.bool r.1) [(3000000,[.v (.i64 x.2.2.2.1.model.Kind),.v (.slice .foreign (x.2.2.2.1.model.Edges.map AD.av)),.v (.slice .foreign (x.2.2.2.1.model.Stats.Rows.map AV.w)),.v (.slice .foreign (x.2.2.2.1.model.Stats.Sel.map AV.w)),.m 2000001]),(2000001,[.mp (GI HZ AG.av r.2)])]):=⟨by
 intro x r h
 rw[Dp] at h
 try dsimp only
 refine FnB.of_lc mix ANF AJ6 (by rfl) (by rfl) fun c=>?_
 simp -implicitDefEqProofs only[go_sem,Tryz.f27]
 revert h;refine itE (fun h1 h=>?_) fun h1 h=>?_
 ·try simp -implicitDefEqProofs only[go_sem, *, -h]
  injection h with h;subst h
  first | exact⟨AM,[],by rfl,AM⟩ | exact⟨AM,[],by rfl⟩ | exact⟨AM,[],by(simp -implicitDefEqProofs only[go_sem, *] <;> first | done | rfl | trivial)⟩ | exact⟨[],by rfl,AM⟩ | exact⟨[],by rfl,by(simp -implicitDefEqProofs only[go_sem, *] <;> first | done | rfl | trivial)⟩
 ·try simp -implicitDefEqProofs only[go_sem, *, -h]
  obtain⟨v2,h3,h⟩:=AE h
  refine LLook.map HZ AG.av (es:=x.2.2.2.2) (k:=x.2.1) (z:=((⟨(⟨0,0,[],[],false⟩:AA),0#64,0#64⟩:AG):AG)) h3 NA AM AM (by first | rfl | (first | rfl | simp -implicitDefEqProofs only[go_sem, *] <;> rfl)) ?_
  try simp -implicitDefEqProofs only[go_sem, *, -h]
  obtain⟨v4,h5,h⟩:=AE h
  refine LLook.map HZ AG.av (es:=x.2.2.2.2) (k:=x.2.2.1) (z:=((⟨(⟨0,0,[],[],false⟩:AA),0#64,0#64⟩:AG):AG)) h5 NA AM AM (by first | rfl | (first | rfl | simp -implicitDefEqProofs only[go_sem, *] <;> rfl)) ?_
  try simp -implicitDefEqProofs only[go_sem, *, -h]
  revert h;refine itE (fun h6 h=>?_) fun h6 h=>?_
  ·try simp -implicitDefEqProofs only[go_sem, *, -h]
   revert h;refine itE (fun h7 h=>?_) fun h7 h=>?_
   ·try simp -implicitDefEqProofs only[go_sem, *, -h]
    obtain⟨r8,h9,h⟩:=AE h
    refine .plain _ _ rfl (Er.w.w (x.2.2.2.1.model,x.2.1,x.2.2.1,x.1.Preds) _ h9) ?_
    try simp -implicitDefEqProofs only[go_sem, *, -h]
    obtain⟨r10,h11,h⟩:=AE h
    have hw:=HU.w.w ([v2.1.costs,v4.1.costs,r8]) _ h11
    simp -implicitDefEqProofs only[go_sem] at hw
    refine .plain _ _ rfl hw ?_
    clear hw
    try simp -implicitDefEqProofs only[go_sem, *, -h]
    obtain⟨v12,h13,h⟩:=AE h
    refine LLook.map HZ AG.av (es:=x.2.2.2.2) (k:=(x.2.1|||x.2.2.1)) (z:=((⟨(⟨0,0,[],[],false⟩:AA),0#64,0#64⟩:AG):AG)) h13 NA AM AM (by first | rfl | (first | rfl | simp -implicitDefEqProofs only[go_sem, *] <;> rfl)) ?_
    try simp -implicitDefEqProofs only[go_sem, *, -h]
    revert h;refine itE (fun h14 h=>?_) fun h14 h=>?_
    ·try simp -implicitDefEqProofs only[go_sem, *, -h]
     obtain⟨r15,h16,h⟩:=AE h
     refine .plain _ _ rfl (DS.w.w ((⟨(⟨0,0,[],[],false⟩:AA),r10,x.2.1⟩:AG),v12.1) _ h16) ?_
     try simp -implicitDefEqProofs only[go_sem, *, -h]
     revert h;refine itE (fun h17 h=>?_) fun h17 h=>?_
     ·try simp -implicitDefEqProofs only[go_sem, *, -h]
      obtain⟨r18,h19,h⟩:=AE h
      refine .plain _ _ rfl (CO.w.w (x.1,v2.1.thing,v4.1.thing) _ h19) ?_
      try simp -implicitDefEqProofs only[go_sem, *, -h]
      refine LMset.map HZ AG.av (es:=x.2.2.2.2) (k:=(x.2.1|||x.2.2.1)) (v:=(⟨r18,r10,x.2.1⟩:AG)) NA AM (by first | rfl | (first | rfl | simp -implicitDefEqProofs only[go_sem, *] <;> rfl)) AM ?_
      try simp -implicitDefEqProofs only[go_sem, *, -h]
      injection h with h;subst h
      first | exact⟨AM,[],by rfl,AM⟩ | exact⟨AM,[],by rfl⟩ | exact⟨AM,[],by(simp -implicitDefEqProofs only[go_sem, *] <;> first | done | rfl | trivial)⟩ | exact⟨[],by rfl,AM⟩ | exact⟨[],by rfl,by(simp -implicitDefEqProofs only[go_sem, *] <;> first | done | rfl | trivial)⟩
     ·try simp -implicitDefEqProofs only[go_sem, *, -h]
      injection h with h;subst h
      first | exact⟨AM,[],by rfl,AM⟩ | exact⟨AM,[],by rfl⟩ | exact⟨AM,[],by(simp -implicitDefEqProofs only[go_sem, *] <;> first | done | rfl | trivial)⟩ | exact⟨[],by rfl,AM⟩ | exact⟨[],by rfl,by(simp -implicitDefEqProofs only[go_sem, *] <;> first | done | rfl | trivial)⟩
    ·try simp -implicitDefEqProofs only[go_sem, *, -h]
     obtain⟨r20,h21,h⟩:=AE h
     refine .plain _ _ rfl (CO.w.w (x.1,v2.1.thing,v4.1.thing) _ h21) ?_
     try simp -implicitDefEqProofs only[go_sem, *, -h]
     refine LMset.map HZ AG.av (es:=x.2.2.2.2) (k:=(x.2.1|||x.2.2.1)) (v:=(⟨r20,r10,x.2.1⟩:AG)) NA AM (by first | rfl | (first | rfl | simp -implicitDefEqProofs only[go_sem, *] <;> rfl)) AM ?_
     try simp -implicitDefEqProofs only[go_sem, *, -h]
     injection h with h;subst h
     first | exact⟨AM,[],by rfl,AM⟩ | exact⟨AM,[],by rfl⟩ | exact⟨AM,[],by(simp -implicitDefEqProofs only[go_sem, *] <;> first | done | rfl | trivial)⟩ | exact⟨[],by rfl,AM⟩ | exact⟨[],by rfl,by(simp -implicitDefEqProofs only[go_sem, *] <;> first | done | rfl | trivial)⟩
   ·try simp -implicitDefEqProofs only[go_sem, *, -h]
    injection h with h;subst h
    first | exact⟨AM,[],by rfl,AM⟩ | exact⟨AM,[],by rfl⟩ | exact⟨AM,[],by(simp -implicitDefEqProofs only[go_sem, *] <;> first | done | rfl | trivial)⟩ | exact⟨[],by rfl,AM⟩ | exact⟨[],by rfl,by(simp -implicitDefEqProofs only[go_sem, *] <;> first | done | rfl | trivial)⟩
  ·try simp -implicitDefEqProofs only[go_sem, *, -h]
   injection h with h;subst h
   first | exact⟨AM,[],by rfl,AM⟩ | exact⟨AM,[],by rfl⟩ | exact⟨AM,[],by(simp -implicitDefEqProofs only[go_sem, *] <;> first | done | rfl | trivial)⟩ | exact⟨[],by rfl,AM⟩ | exact⟨[],by rfl,by(simp -implicitDefEqProofs only[go_sem, *] <;> first | done | rfl | trivial)⟩⟩
def Ap.l2 (x:AC × List Int × Int × Int × AZ × (List (AC × AG)) × AJ):Option ((List (AC × AG)) × AJ) :=
 if(decide (x.2.2.2.1<x.2.2.1))=true then
  (AU x.2.1 x.2.2.2.1)>>=fun (e23:Int) =>
  Cd ([e23])>>=fun r25 =>
  BC (x.2.2.2.2.1.Edges,(x.1&&&~~~r25),r25)>>=fun r27 =>
  if r27.2=true then
   Dp (r27.1,(x.1&&&~~~r25),r25,(⟨x.2.2.2.2.2.2.model,()⟩:AJ),x.2.2.2.2.2.1)>>=fun r30 =>
   Ap.l2 (x.1,x.2.1,x.2.2.1,(w64 (x.2.2.2.1+1)),x.2.2.2.2.1,r30.2,(⟨(⟨((⟨x.2.2.2.2.2.2.model,()⟩:AJ).model).Kind,((⟨x.2.2.2.2.2.2.model,()⟩:AJ).model).Edges,(⟨(((⟨x.2.2.2.2.2.2.model,()⟩:AJ).model).Stats).Rows,(((⟨x.2.2.2.2.2.2.model,()⟩:AJ).model).Stats).Sel⟩:Ay)⟩:AZ),()⟩:AJ))
  else
   Ap.l2 (x.1,x.2.1,x.2.2.1,(w64 (x.2.2.2.1+1)),x.2.2.2.2.1,x.2.2.2.2.2.1,(⟨x.2.2.2.2.2.2.model,()⟩:AJ))
 else
  some (x.2.2.2.2.2.1,(⟨x.2.2.2.2.2.2.model,()⟩:AJ))
 partial_fixpoint
theorem Ap.l2.ws:PC Ap.l2 (fun x o=>∀ lo c (hlo:Km c lo) (Q:EP) (hb:∀ s:(List (AC × AG)) × AJ,o=s→Q (.exit 2) ⟨[],[(2100002,[.v (.i64 x.2.2.2.2.1.Kind),.v (.slice .foreign (x.2.2.2.2.1.Edges.map AD.av)),.v (.slice .foreign (x.2.2.2.2.1.Stats.Rows.map AV.w)),.v (.slice .foreign (x.2.2.2.2.1.Stats.Sel.map AV.w))]),(2100008,[.p 2150105]),(2150104,[.mp (GI HZ AG.av s.1)]),(2150105,[.v (.i64 s.2.model.Kind),.v (.slice .foreign (s.2.model.Edges.map AD.av)),.v (.slice .foreign (s.2.model.Stats.Rows.map AV.w)),.v (.slice .foreign (s.2.model.Stats.Sel.map AV.w)),.m 2150104])]⟩),AK Tryz.prog 13 lo c 2 (VQ Q) ⟨[(2,.lref 2100002 0),(8,.lref 2100008 0),(9,.v (.w x.1)),(47,.v (.slice .foreign (x.2.1.map AV.i64))),(48,.v (.i64 x.2.2.1)),(49,.v (.i64 x.2.2.2.1))],[(2100002,[.v (.i64 x.2.2.2.2.1.Kind),.v (.slice .foreign (x.2.2.2.2.1.Edges.map AD.av)),.v (.slice .foreign (x.2.2.2.2.1.Stats.Rows.map AV.w)),.v (.slice .foreign (x.2.2.2.2.1.Stats.Sel.map AV.w))]),(2100008,[.p 2150105]),(2150104,[.mp (GI HZ AG.av x.2.2.2.2.2.1)]),(2150105,[.v (.i64 x.2.2.2.2.2.2.model.Kind),.v (.slice .foreign (x.2.2.2.2.2.2.model.Edges.map AD.av)),.v (.slice .foreign (x.2.2.2.2.2.2.model.Stats.Rows.map AV.w)),.v (.slice .foreign (x.2.2.2.2.2.2.model.Stats.Sel.map AV.w)),.m 2150104])]⟩):=by
 refine Ap.l2.partial_correctness _ ?_
 ·intro AG2 Ly x o h
  intro lo c hlo Q hb
  refine AK.step mix ACi (by kernel_rfl) ?_
  simp -implicitDefEqProofs only[go_sem,Tryz.f13]
  revert h;refine itE (fun h22 h=>?_) fun h22 h=>?_
  ·try simp -implicitDefEqProofs only[go_sem, *, -h]
   obtain⟨e23,h24,h⟩:=AE h;replace h24:=Dz h24;obtain⟨h24',h24⟩:=h24
   try simp -implicitDefEqProofs only[go_sem, *, -h]
   obtain⟨r25,h26,h⟩:=AE h
   have hw:=Cd.w.w ([e23]) _ h26
   simp -implicitDefEqProofs only[go_sem] at hw
   refine .plain _ _ rfl hw ?_
   clear hw
   try simp -implicitDefEqProofs only[go_sem, *, -h]
   obtain⟨r27,h28,h⟩:=AE h
   refine .plain _ _ rfl (BC.w.w (x.2.2.2.2.1.Edges,(x.1&&&~~~r25),r25) _ h28) ?_
   try simp -implicitDefEqProofs only[go_sem, *, -h]
   revert h;refine itE (fun h29 h=>?_) fun h29 h=>?_
   ·try simp -implicitDefEqProofs only[go_sem, *, -h]
    obtain⟨r30,h31,h⟩:=AE h
    have hw:=Dp.w.w (r27.1,(x.1&&&~~~r25),r25,(⟨x.2.2.2.2.2.2.model,()⟩:AJ),x.2.2.2.2.2.1) _ h31
    refine .vars [] [(3000000,2150105),(2000001,2150104)] _ _ _ _ hw AM (by rfl) (by rfl) (by rfl) (by rfl) AM AM AM ?_
    clear hw
    try simp -implicitDefEqProofs only[go_sem, *, -h]
    exact AK.view [] AM (Ly _ _ h lo c hlo Q hb)
   ·try simp -implicitDefEqProofs only[go_sem, *, -h]
    exact AK.view [] AM (Ly _ _ h lo c hlo Q hb)
  ·try simp -implicitDefEqProofs only[go_sem, *, -h]
   injection h with h;subst h
   exact .inr ⟨[],_,by(simp -implicitDefEqProofs only[go_sem, *] <;> first | done | rfl | trivial),hb _ rfl⟩
instance Ap.l2.w:type_of% (AH.mk Ap.l2.ws):=⟨Ap.l2.ws⟩
def Ap.r0 (x:List AC × AZ × (List (AC × AG)) × AJ):Option ((List (AC × AG)) × AJ) :=
 match x.1 with
 | []=>some (x.2.2.1,x.2.2.2)
 | e10 :: l11 =>
  EC (e10,(⟨x.2.2.2.model,()⟩:AJ),x.2.2.1)>>=fun r12 =>
  Ee r12.1>>=fun r14 =>
  if((r14.kind == 0)&&(r14.kids == 0))=true then
   FV e10>>=fun r17 =>
   if(r17 == 1)=true then
    Ap.r0 (l11,x.2.1,x.2.2.1,(⟨(⟨((⟨x.2.2.2.model,()⟩:AJ).model).Kind,((⟨x.2.2.2.model,()⟩:AJ).model).Edges,(⟨(((⟨x.2.2.2.model,()⟩:AJ).model).Stats).Rows,(((⟨x.2.2.2.model,()⟩:AJ).model).Stats).Sel⟩:Ay)⟩:AZ),()⟩:AJ))
   else
    Bw e10>>=fun r20 =>
    Ap.l2 (e10,r20,(r20.length:Int),0,x.2.1,x.2.2.1,(⟨(⟨((⟨x.2.2.2.model,()⟩:AJ).model).Kind,((⟨x.2.2.2.model,()⟩:AJ).model).Edges,(⟨(((⟨x.2.2.2.model,()⟩:AJ).model).Stats).Rows,(((⟨x.2.2.2.model,()⟩:AJ).model).Stats).Sel⟩:Ay)⟩:AZ),()⟩:AJ))>>=fun (o32:(List (AC × AG)) × AJ) =>
    Ap.r0 (l11,x.2.1,o32.1,(⟨o32.2.model,()⟩:AJ))
  else
   Bw e10>>=fun r34 =>
   Ap.l2 (e10,r34,(r34.length:Int),0,x.2.1,x.2.2.1,(⟨(⟨((⟨x.2.2.2.model,()⟩:AJ).model).Kind,((⟨x.2.2.2.model,()⟩:AJ).model).Edges,(⟨(((⟨x.2.2.2.model,()⟩:AJ).model).Stats).Rows,(((⟨x.2.2.2.model,()⟩:AJ).model).Stats).Sel⟩:Ay)⟩:AZ),()⟩:AJ))>>=fun (o36:(List (AC × AG)) × AJ) =>
   Ap.r0 (l11,x.2.1,o36.1,(⟨o36.2.model,()⟩:AJ))
 partial_fixpoint
theorem Ap.r0.ws:PC Ap.r0 (fun x o=>∀ (Fin:Exit→List (Nat × List CV)→Prop) (hb:∀ (s:(List (AC × AG)) × AJ),o=s→Fin .normal [(2100002,[.v (.i64 x.2.1.Kind),.v (.slice .foreign (x.2.1.Edges.map AD.av)),.v (.slice .foreign (x.2.1.Stats.Rows.map AV.w)),.v (.slice .foreign (x.2.1.Stats.Sel.map AV.w))]),(2100008,[.p 2150105]),(2150104,[.mp (GI HZ AG.av s.1)]),(2150105,[.v (.i64 s.2.model.Kind),.v (.slice .foreign (s.2.model.Edges.map AD.av)),.v (.slice .foreign (s.2.model.Stats.Rows.map AV.w)),.v (.slice .foreign (s.2.model.Stats.Sel.map AV.w)),.m 2150104])]),Hm Tryz.prog 13 Tryz.f13 0 1 #[29] [(2,.lref 2100002 0),(8,.lref 2100008 0)] Fin (x.1.map (fun (y:AC)=>[.w y])) [(2100002,[.v (.i64 x.2.1.Kind),.v (.slice .foreign (x.2.1.Edges.map AD.av)),.v (.slice .foreign (x.2.1.Stats.Rows.map AV.w)),.v (.slice .foreign (x.2.1.Stats.Sel.map AV.w))]),(2100008,[.p 2150105]),(2150104,[.mp (GI HZ AG.av x.2.2.1)]),(2150105,[.v (.i64 x.2.2.2.model.Kind),.v (.slice .foreign (x.2.2.2.model.Edges.map AD.av)),.v (.slice .foreign (x.2.2.2.model.Stats.Rows.map AV.w)),.v (.slice .foreign (x.2.2.2.model.Stats.Sel.map AV.w)),.m 2150104])]):=by
 refine Ap.r0.partial_correctness _ ?_
 ·intro AGk Je x o h
  intro Fin hb
  generalize hx1:x.1=ys at h ⊢
  cases ys with
  | nil=>injection h with h;subst h;exact Hm.nil (hb _ rfl)
  | cons e10 l11 =>
   refine Hm.cons rfl fun l0 c1 hlo1=>?_
   dsimp only at h
   simp -implicitDefEqProofs only[go_sem,Tryz.f13]
   refine Qj.mk (by rfl) fun c2 hlo2=>?_
   simp -implicitDefEqProofs only[go_sem,Tryz.f13]
   obtain⟨r12,h13,h⟩:=AE h
   have hw:=EC.w.w (e10,(⟨x.2.2.2.model,()⟩:AJ),x.2.2.1) _ h13
   refine .vars [] [(3000000,2150105),(3000001,2150104)] _ _ _ _ hw AM (by rfl) (by rfl) (by rfl) (by rfl) AM AM AM ?_
   clear hw
   try simp -implicitDefEqProofs only[go_sem]
   obtain⟨r14,h15,h⟩:=AE h
   refine .plain _ _ rfl (Ee.w.w r12.1 _ h15) ?_
   try simp -implicitDefEqProofs only[go_sem]
   revert h;refine itE (fun h16 h=>?_) fun h16 h=>?_
   ·try simp -implicitDefEqProofs only[go_sem, *, -h]
    obtain⟨r17,h18,h⟩:=AE h
    refine .plain _ _ rfl (FV.w.w e10 _ h18) ?_
    try simp -implicitDefEqProofs only[go_sem, *, -h]
    revert h;refine itE (fun h19 h=>?_) fun h19 h=>?_
    ·try simp -implicitDefEqProofs only[go_sem, *, -h]
     exact KK.next [] (by rfl) AM (by rfl) (Je (l11,x.2.1,x.2.2.1,(⟨(⟨((⟨x.2.2.2.model,()⟩:AJ).model).Kind,((⟨x.2.2.2.model,()⟩:AJ).model).Edges,(⟨(((⟨x.2.2.2.model,()⟩:AJ).model).Stats).Rows,(((⟨x.2.2.2.model,()⟩:AJ).model).Stats).Sel⟩:Ay)⟩:AZ),()⟩:AJ)) _ h Fin hb)
    ·try simp -implicitDefEqProofs only[go_sem, *, -h]
     obtain⟨r20,h21,h⟩:=AE h
     refine .plain _ _ rfl (Bw.w.w e10 _ h21) ?_
     try simp -implicitDefEqProofs only[go_sem, *, -h]
     obtain⟨o32,h33,h⟩:=AE h
     refine AK.viewQ (AK.view [] AM (Ap.l2.w.w (e10,r20,(r20.length:Int),0,x.2.1,x.2.2.1,(⟨(⟨((⟨x.2.2.2.model,()⟩:AJ).model).Kind,((⟨x.2.2.2.model,()⟩:AJ).model).Edges,(⟨(((⟨x.2.2.2.model,()⟩:AJ).model).Stats).Rows,(((⟨x.2.2.2.model,()⟩:AJ).model).Stats).Sel⟩:Ay)⟩:AZ),()⟩:AJ)) _ h33 _ _ hlo2 _ ?_))
     intro s' hs';subst hs'
     try simp -implicitDefEqProofs only[go_sem, *, -h]
     exact KK.next [] (by rfl) AM (by rfl) (Je (l11,x.2.1,o32.1,(⟨o32.2.model,()⟩:AJ)) _ h Fin hb)
   ·try simp -implicitDefEqProofs only[go_sem, *, -h]
    obtain⟨r34,h35,h⟩:=AE h
    refine .plain _ _ rfl (Bw.w.w e10 _ h35) ?_
    try simp -implicitDefEqProofs only[go_sem, *, -h]
    obtain⟨o36,h37,h⟩:=AE h
    refine AK.viewQ (AK.view [] AM (Ap.l2.w.w (e10,r34,(r34.length:Int),0,x.2.1,x.2.2.1,(⟨(⟨((⟨x.2.2.2.model,()⟩:AJ).model).Kind,((⟨x.2.2.2.model,()⟩:AJ).model).Edges,(⟨(((⟨x.2.2.2.model,()⟩:AJ).model).Stats).Rows,(((⟨x.2.2.2.model,()⟩:AJ).model).Stats).Sel⟩:Ay)⟩:AZ),()⟩:AJ)) _ h37 _ _ hlo2 _ ?_))
    intro s' hs';subst hs'
    try simp -implicitDefEqProofs only[go_sem, *, -h]
    exact KK.next [] (by rfl) AM (by rfl) (Je (l11,x.2.1,o36.1,(⟨o36.2.model,()⟩:AJ)) _ h Fin hb)
instance Ap.r0.w:type_of% (AH.mk Ap.r0.ws):=⟨Ap.r0.ws⟩
def Ap (x:AZ × AA):Option (AA × AC × Bool) :=
 CF x.2>>=fun r1 =>
 FV r1>>=fun r3 =>
 if(decide (r3 > 12))=true then
  some ((⟨0,0,[],[],false⟩:AA),0#64,false)
 else
  CZ (x.1,r1)>>=fun r6 =>
  HA r1>>=fun l8 =>
  Ap.r0 (l8,x.1,r6.1,(⟨r6.2.model,()⟩:AJ))>>=fun (s40:(List (AC × AG)) × AJ) =>
  EC (r1,(⟨s40.2.model,()⟩:AJ),s40.1)>>=fun r41 =>
  some (r41.1,r41.2.1,r41.2.2)
instance Ap.w:AH Ap (fun x r=>Fn Tryz.prog 13 [.agg (AZ.C x.1),.agg (AA.C x.2)] (.tuple [.agg (AA.C r.1),.w r.2.1,.bool r.2.2])):=⟨by
 intro x r h
 rw[Ap] at h
 try dsimp only
 refine Fn.of_lc mix ACi ALw (by rfl) (flC (AZ.flatC _) (flC (AA.flatC _) (flN))) (.tuple _ (flC (AA.flatC _) (flC (.atom _) (flC (.atom _) (flN))))) ?_
 simp -implicitDefEqProofs only[go_sem,Tryz.f13]
 obtain⟨r1,h2,h⟩:=AE h
 refine .plain _ _ rfl (CF.w.w x.2 _ h2) ?_
 try simp -implicitDefEqProofs only[go_sem]
 obtain⟨r3,h4,h⟩:=AE h
 refine .plain _ _ rfl (FV.w.w r1 _ h4) ?_
 try simp -implicitDefEqProofs only[go_sem]
 revert h;refine itE (fun h5 h=>?_) fun h5 h=>?_
 ·try simp -implicitDefEqProofs only[go_sem, *, -h]
  injection h with h;subst h
  exact AM
 ·try simp -implicitDefEqProofs only[go_sem, *, -h]
  obtain⟨r6,h7,h⟩:=AE h
  have hw:=CZ.w.w (x.1,r1) _ h7
  try simp -implicitDefEqProofs only[go_sem] at hw
  refine Oy.newOf [(9,50104),(11,50105)] (.lref 50105 0) hw AM (by first | rfl | (first | rfl | simp -implicitDefEqProofs only[go_sem, *] <;> rfl)) (by rfl) ?_
  clear hw
  simp -implicitDefEqProofs only[go_sem]
  try simp -implicitDefEqProofs only[go_sem, *, -h]
  obtain⟨l8,h9,h⟩:=AE h
  refine .iter _ _ rfl (HA.w r1 _ h9) ?_
  try simp -implicitDefEqProofs only[go_sem, *, -h]
  obtain⟨s40,h39,h⟩:=AE h
  refine Lj.iter mix ACi (Km.none _) (by kernel_rfl) (by kernel_rfl) (by rfl) rfl [] [(2100002,2),(2100008,8),(2150104,50104),(2150105,50105)] (by rfl) (by rfl) AM AM (Ap.r0.w.w (l8,x.1,r6.1,(⟨r6.2.model,()⟩:AJ)) _ h39 _ ?_)
  intro s0 hs';subst hs'
  try simp -implicitDefEqProofs only[go_sem, *, -h]
  obtain⟨r41,h42,h⟩:=AE h
  have hw:=EC.w.w (r1,(⟨s40.2.model,()⟩:AJ),s40.1) _ h42
  refine .vars [] [(3000000,50105),(3000001,50104)] _ _ _ _ hw AM (by rfl) (by rfl) (by rfl) (by rfl) AM AM AM ?_
  clear hw
  try simp -implicitDefEqProofs only[go_sem, *, -h]
  injection h with h;subst h
  exact AM⟩
end
section
def FX (f:If) (t:AA):AG:=⟨t,CA f t,Nm t⟩
theorem Xl (c:AS) (x y:AA) (hx:x.size≤1000000) (hy:y.size≤1000000) (hl:c.Preds.length≤1000000) (hp:∀ p∈c.Preds,p.size≤1000000):CO (c,x,y)=some ⟨c.Kind,0,[x,y],c.Preds,false⟩:=by
 have key:∀ (post pre acc:List AB),pre++post=c.Preds→acc.length≤pre.length→CO.l0 (c.Preds,(c.Preds.length:Int),(pre.length:Int),(⟨0,0,[],[],false⟩:AA),(⟨c.Kind,0,[x,y],acc,false⟩:AA))=some ⟨c.Kind,0,[x,y],acc++post,false⟩:=by
  intro post
  induction post with
  | nil=>intro pre acc he _;rw[List.append_nil] at he;rw[CO.l0,if_neg (dge (by dsimp only;rw[← he];omega)),List.append_nil]
  | cons p l ih =>
   intro pre acc he ha
   have hlen:pre.length+(l.length+1)=c.Preds.length:=by rw[← he,List.length_append];rfl
   rw[CO.l0,if_pos (dlt (by dsimp only;omega))]
   dsimp only
   have hg:AU c.Preds (pre.length:Int)=some p:=by rw[← he,FB]
   rw[hg]
   simp -implicitDefEqProofs only[Option.bind_eq_bind,Option.bind_some]
   rw[Mv p (hp p (by rw[← he];simp))]
   simp -implicitDefEqProofs only[Option.bind_some]
   rw[Bt (by simp only[List.length_cons,List.length_nil];omega),Aa (by omega)]
   simp -implicitDefEqProofs only[Option.bind_some]
   have:=ih (pre++[p]) (acc++[p]) (by rw[List.append_assoc];exact he) (by rw[CX,CX];omega)
   rw[CX,List.append_assoc] at this
   exact this
 have h0:=key c.Preds [] [] rfl (Nat.le_refl _)
 rw[List.length_nil,show ((0:Nat):Int)=0 from rfl,List.nil_append] at h0
 unfold CO
 dsimp only
 rw[Gz x hx,Gz y hy]
 simp -implicitDefEqProofs only[Option.bind_eq_bind,Option.bind_some]
 rw[h0];rfl
theorem AHF {m:AZ} {es:List AD} (hm:m.Edges=es) (hE:es.length<9223372036854775808) (c:AS) (a b:AC) (hab:a&&&b=0#64) (mm:List (AC × AG)) (x y:AA) (cx cy kx ky:AC)
  (hx:Cs a mm=some ⟨x,cx,kx⟩) (hy:Cs b mm=some ⟨y,cy,ky⟩) (hxs:x.size≤1000000) (hys:y.size≤1000000) (hl:c.Preds.length≤1000000) (hp:∀ p∈c.Preds,p.size≤1000000) :
  ∃ told,Dp (c,a,b,(⟨m,()⟩:AJ),mm)=some (told,(
   let cost:=DM (cx.toNat+cy.toNat+(BL m.Kind m.Edges m.Stats a b c.Preds).toNat)
   let new:AG:=⟨⟨c.Kind,0,[x,y],c.Preds,false⟩,cost,a⟩
   match Cs (a|||b) mm with
   | none=>IE (a|||b) new mm
   | some was=>if(decide (cost<was.costs) || (cost == was.costs&&decide (a<was.first)))=true then IE (a|||b) new mm else mm)):=by
 unfold Dp
 dsimp only
 rw[if_neg (by simp[hab]),Ky,Ky,hx,hy]
 simp -implicitDefEqProofs only[Option.bind_eq_bind,Option.bind_some,if_true]
 rw[AAA m a b c.Preds (by rw[hm];exact hE) (by omega)]
 simp -implicitDefEqProofs only[Option.bind_some]
 rw[OT _ (by simp),Ky]
 simp -implicitDefEqProofs only[Option.bind_some]
 have hs:PD [cx,cy,BL m.Kind m.Edges m.Stats a b c.Preds]=cx.toNat+cy.toNat+(BL m.Kind m.Edges m.Stats a b c.Preds).toNat:=by unfold PD;simp;omega
 rw[hs,Xl c x y hxs hys hl hp]
 simp -implicitDefEqProofs only[Option.bind_some]
 cases hw:Cs (a|||b) mm with
 | none=>exact⟨true,rfl⟩
 | some was =>
  dsimp only
  unfold DS
  dsimp only
  by_cases h1:DM (cx.toNat+cy.toNat+(BL m.Kind m.Edges m.Stats a b c.Preds).toNat)<was.costs
  ·refine⟨true,?_⟩
   simp[h1]
  ·by_cases h2:DM (cx.toNat+cy.toNat+(BL m.Kind m.Edges m.Stats a b c.Preds).toNat)=was.costs
   ·by_cases h3:a<was.first
    ·refine⟨true,?_⟩
     simp[h1,h2,h3]
    ·refine⟨false,?_⟩
     simp[h1,h2,h3]
   ·refine⟨false,?_⟩
    simp[h1,h2]
end
section
open Classical
theorem MY {i:Int} (hr:0≤i∧i<64):FC (AN i)=i∧Ao (AN i)=1:=by
 have hb:∀ n,Ad (AN i) n=true ↔ n=i:=fun n=>by
  rw[Gy];simp
  constructor
  ·rintro⟨_,h⟩;exact h.symm
  ·rintro rfl;exact⟨hr,rfl⟩
 have h1:=IU (AN i)
 have h2:∀ n,n∈BS (AN i) ↔ n=i:=fun n=>(FJ _ n).trans (hb n)
 have hm:BS (AN i)=[i]:=by
  cases hl:BS (AN i) with
  | nil=>have:=(h2 i).2 rfl;rw[hl] at this;cases this
  | cons p l =>
   have hp:=(h2 p).1 (by rw[hl];exact List.mem_cons_self)
   subst hp
   cases l with
   | nil=>rfl
   | cons q l =>
    have hq:=(h2 q).1 (by rw[hl];simp)
    rw[hl] at h1
    have:=(List.pairwise_cons.1 h1).1 q (by simp)
    omega
 exact⟨by unfold FC;rw[hm],by unfold Ao;rw[hm];rfl⟩
theorem AKb (is:List Int) (hr:∀ i∈is,0≤i∧i<64) (hl:is.length≤64) (mo:AJ):∀ (post pre:List Int) (mm:List (AC × AG)),pre++post=is→(∀ s,Cs s mm=if ∃ i∈pre,s=AN i then some ⟨BM (FC s),0#64,0#64⟩ else none) →
  ∃ mm',CZ.l0 (is,(is.length:Int),(pre.length:Int),mm,mo)=some mm'∧∀ s,Cs s mm'=if ∃ i∈is,s=AN i then some ⟨BM (FC s),0#64,0#64⟩ else none:=by
 intro post
 induction post generalizing mo with
 | nil=>intro pre mm he hm;rw[List.append_nil] at he;subst he;rw[CZ.l0,if_neg (dge (by dsimp only;omega))];exact⟨mm,rfl,hm⟩
 | cons i l ih =>
  intro pre mm he hm
  have hlen:pre.length+(l.length+1)=is.length:=by rw[← he,List.length_append];rfl
  have hi:=hr i (by rw[← he];simp)
  rw[CZ.l0,if_pos (dlt (by dsimp only;omega))]
  dsimp only
  have hg:AU is (pre.length:Int)=some i:=by rw[← he,FB]
  rw[hg]
  simp -implicitDefEqProofs only[Option.bind_eq_bind,Option.bind_some]
  rw[PH [i] (by simp),GZ,Hs,BitVec.or_zero]
  simp -implicitDefEqProofs only[Option.bind_some]
  rw[Aa (by omega)]
  have h0:=ih (⟨mo.model,()⟩:AJ) (pre++[i]) (IE (AN i) ⟨BM i,0#64,0#64⟩ mm) (by rw[List.append_assoc];exact he) (fun s=>by
   rw[XS,hm s]
   by_cases h:s=AN i
   ·rw[if_pos h,if_pos ⟨i,by simp,h⟩,h,(MY hi).1]
   ·rw[if_neg h]
    by_cases h2:∃ j∈pre,s=AN j
    ·rw[if_pos h2,if_pos]
     obtain⟨j,hj,e⟩:=h2
     exact⟨j,List.mem_append_left _ hj,e⟩
    ·rw[if_neg h2,if_neg]
     rintro⟨j,hj,e⟩
     rcases List.mem_append.1 hj with hj | hj
     ·exact h2 ⟨j,hj,e⟩
     ·rw[List.mem_singleton] at hj;subst hj;exact h e)
  rw[CX] at h0
  exact h0
theorem AA6 (m:AZ) (all:AC) (hl:Bw all=some (BS all)):∃ mm,CZ (m,all)=some (mm,(⟨m,()⟩:AJ))∧∀ s,Cs s mm=if ∃ i∈BS all,s=AN i then some ⟨BM (FC s),0#64,0#64⟩ else none:=by
 have hml:=Ww all
 obtain⟨mm,h1,h2⟩:=AKb (BS all) (Eh all) hml (⟨m,()⟩:AJ) (BS all) [] [] rfl (fun s=>by
  rw[if_neg]
  ·rfl
  ·rintro⟨i,hi,_⟩;cases hi)
 rw[List.length_nil,show ((0:Nat):Int)=0 from rfl] at h1
 unfold CZ
 dsimp only
 rw[hl]
 simp -implicitDefEqProofs only[Option.bind_eq_bind,Option.bind_some]
 rw[h1]
 exact⟨mm,rfl,h2⟩
theorem ACO (c:AS) (a b:AC) (m:AZ) (mm:List (AC × AG)) (h:Cs a mm=none) (hb:∃ v,Cs b mm=some v):Dp (c,a,b,(⟨m,()⟩:AJ),mm)=some (false,mm):=by
 unfold Dp
 dsimp only
 by_cases hab:a&&&b=0#64
 ·rw[if_neg (by simp[hab]),Ky,Ky,h]
  simp -implicitDefEqProofs only[Option.bind_eq_bind,Option.bind_some,Bool.false_eq_true,if_false]
 ·rw[if_pos (by simpa using hab)]
theorem AI6 {m:AZ} {es:List AD} (hm:m.Edges=es) (w:JM es) (s:AC) (D:AC→Option AA) (hc:Ao s≠1)
  (hDs:∀ i∈BS s,∀ t,D (s&&&~~~AN i)=some t→t.size≤100000∧AX t=s&&&~~~AN i) (hP:∀ a b,(DF es (Bl es a b)).length≤1000000∧∀ p∈DF es (Bl es a b),p.size≤1000000):∀ (post pre:List Int) (acc:Option AA) (mm:List (AC × AG)) (mo:AJ),mo.model=m→pre++post=BS s →
  (∀ i∈BS s,Cs (AN i) mm=some ⟨BM i,0#64,0#64⟩) →
  (∀ i∈BS s,∃ k,Cs (s&&&~~~AN i) mm=(D (s&&&~~~AN i)).map fun t=>⟨t,CA (BL m.Kind m.Edges m.Stats) t,k⟩) →
  (Cs s mm=acc.map (FX (BL m.Kind m.Edges m.Stats))) →
  ∃ mm',Ap.l2 (s,BS s,((BS s).length:Int),(pre.length:Int),m,mm,mo)=some (mm',(⟨m,()⟩:AJ))∧(∀ q,q≠s→Cs q mm'=Cs q mm) ∧
   Cs s mm'=((post.map fun i=>Hi es (s&&&~~~AN i) (AN i) i (D (s&&&~~~AN i))).foldl (LS (BL m.Kind m.Edges m.Stats)) acc).map (FX (BL m.Kind m.Edges m.Stats)):=by
 subst hm
 have hml:=Ww s
 intro post
 induction post with
 | nil =>
  intro pre acc mm mo hmo he h1 h2 h3
  rw[List.append_nil] at he
  rw[Ap.l2,if_neg (dge (by dsimp only;rw[← he];omega))]
  exact⟨mm,by rw[← hmo],fun q _=>rfl,h3⟩
 | cons i l ih =>
  intro pre acc mm mo hmo he h1 h2 h3
  have hlen:pre.length+(l.length+1)=(BS s).length:=by rw[← he,List.length_append];rfl
  have him:i∈BS s:=by rw[← he];simp
  obtain⟨hin,hcard⟩:=PJ him
  have hr:=Eh s i him
  have hsb:s≠AN i:=fun h=>hc (by rw[h];exact(MY hr).2)
  have hsa:s&&&~~~AN i≠s:=fun h=>by rw[h] at hcard;omega
  have hor:(s&&&~~~AN i)|||AN i=s:=by rw[BitVec.or_comm];exact AD5 hin
  have hand:(s&&&~~~AN i)&&&AN i=0#64:=by
   refine(KJ _).2 fun n=>?_
   rw[RD,IH]
   cases Ad (AN i) n <;> simp
  rw[Ap.l2,if_pos (dlt (by dsimp only;omega))]
  dsimp only
  have hg:AU (BS s) (pre.length:Int)=some i:=by rw[← he,FB]
  rw[hg]
  simp -implicitDefEqProofs only[Option.bind_eq_bind,Option.bind_some]
  rw[PH [i] (by simp),GZ,Hs,BitVec.or_zero]
  simp -implicitDefEqProofs only[Option.bind_some]
  rw[Xt w]
  simp -implicitDefEqProofs only[Option.bind_some]
  rw[Aa (by omega),List.map_cons,List.foldl_cons]
  have next:∀ (acc':Option AA) (mm2:List (AC × AG)) (mo':AJ),mo'.model=m→(∀ q,q≠s→Cs q mm2=Cs q mm)→Cs s mm2=acc'.map (FX (BL m.Kind m.Edges m.Stats)) →
    ∃ mm',Ap.l2 (s,BS s,((BS s).length:Int),((pre.length+1:Nat):Int),m,mm2,mo')=some (mm',(⟨m,()⟩:AJ))∧(∀ q,q≠s→Cs q mm'=Cs q mm) ∧
     Cs s mm'=((l.map fun i=>Hi m.Edges (s&&&~~~AN i) (AN i) i (D (s&&&~~~AN i))).foldl (LS (BL m.Kind m.Edges m.Stats)) acc').map (FX (BL m.Kind m.Edges m.Stats)):=fun acc' mm2 mo' g1 g2 g3=>by
   have:=ih (pre++[i]) acc' mm2 mo' g1 (by rw[List.append_assoc];exact he) (fun j hj=>by
     have hrj:=Eh s j hj
     rw[g2 _ (fun h=>hc (by rw[← h];exact(MY hrj).2))];exact h1 j hj) (fun j hj=>by
     have hcj:=(PJ hj).2
     rw[g2 _ (fun h=>by rw[h] at hcj;omega)];exact h2 j hj) g3
   rw[CX] at this
   obtain⟨mm',k1,k2,k3⟩:=this
   exact⟨mm',k1,fun q hq=>by rw[k2 q hq,g2 q hq],k3⟩
  cases hj:Fk m.Edges (s&&&~~~AN i) (AN i)
  ·simp only[Bool.false_eq_true,if_false]
   have hd:Hi m.Edges (s&&&~~~AN i) (AN i) i (D (s&&&~~~AN i))=none:=by unfold Hi;rw[hj];rfl
   rw[hd]
   exact next acc mm (⟨mo.model,()⟩:AJ) hmo (fun q _=>rfl) h3
  ·simp only[if_true]
   obtain⟨k,hk⟩:=h2 i him
   have hmo2:(⟨mo.model,()⟩:AJ)=⟨m,()⟩:=by rw[hmo]
   rw[hmo2]
   cases hD:D (s&&&~~~AN i) with
   | none =>
    rw[hD] at hk
    rw[ACO _ _ _ m mm hk ⟨_,h1 i him⟩]
    simp -implicitDefEqProofs only[Option.bind_some]
    have hd:Hi m.Edges (s&&&~~~AN i) (AN i) i none=none:=by unfold Hi;rw[hj];rfl
    rw[hd]
    exact next acc mm (⟨m,()⟩:AJ) rfl (fun q _=>rfl) h3
   | some d =>
    rw[hD] at hk
    obtain⟨hds,hdt⟩:=hDs i him d hD
    have hls:(BM i).size=1:=by rw[DX];rfl
    obtain⟨told,ho⟩:=AHF (m:=m) (es:=m.Edges) rfl (by have:=w.len;omega) (Nv m.Edges (s&&&~~~AN i) (AN i)) (s&&&~~~AN i) (AN i) hand mm d (BM i) (CA (BL m.Kind m.Edges m.Stats) d) 0#64 k 0#64 hk (h1 i him) (by omega) (by omega) (hP _ _).1 (hP _ _).2
    rw[ho]
    simp -implicitDefEqProofs only[Option.bind_some]
    rw[hor]
    have hd:Hi m.Edges (s&&&~~~AN i) (AN i) i (some d)=some (Cx m.Edges (s&&&~~~AN i) (AN i) d (BM i)):=by unfold Hi;rw[hj];rfl
    rw[hd]
    have hcost:CA (BL m.Kind m.Edges m.Stats) (Cx m.Edges (s&&&~~~AN i) (AN i) d (BM i))=DM ((CA (BL m.Kind m.Edges m.Stats) d).toNat+(0#64:AC).toNat+(BL m.Kind m.Edges m.Stats (s&&&~~~AN i) (AN i) (Nv m.Edges (s&&&~~~AN i) (AN i)).Preds).toNat):=by
     rw[NS (BL m.Kind m.Edges m.Stats) (t:=Cx m.Edges (s&&&~~~AN i) (AN i) d (BM i)) (x:=d) (y:=BM i) rfl,hdt,UR,MI (BL m.Kind m.Edges m.Stats) (t:=BM i) (by show ([]:List AA).length≠2;simp)]
     rfl
    have hent:(⟨⟨(Nv m.Edges (s&&&~~~AN i) (AN i)).Kind,0,[d,BM i],(Nv m.Edges (s&&&~~~AN i) (AN i)).Preds,false⟩,DM ((CA (BL m.Kind m.Edges m.Stats) d).toNat+(0#64:AC).toNat+(BL m.Kind m.Edges m.Stats (s&&&~~~AN i) (AN i) (Nv m.Edges (s&&&~~~AN i) (AN i)).Preds).toNat),s&&&~~~AN i⟩:AG)=FX (BL m.Kind m.Edges m.Stats) (Cx m.Edges (s&&&~~~AN i) (AN i) d (BM i)):=by
     unfold FX
     rw[hcost,MX (t:=Cx m.Edges (s&&&~~~AN i) (AN i) d (BM i)) (a:=d) (b:=BM i) rfl,hdt]
     rfl
    try dsimp only
    rw[hent,h3]
    have put:∀ q,Cs q (IE s (FX (BL m.Kind m.Edges m.Stats) (Cx m.Edges (s&&&~~~AN i) (AN i) d (BM i))) mm)=if q=s then some (FX (BL m.Kind m.Edges m.Stats) (Cx m.Edges (s&&&~~~AN i) (AN i) d (BM i))) else Cs q mm:=fun q=>XS q s _ mm
    cases acc with
    | none =>
     simp only[Option.map_none]
     exact next _ _ (⟨m,()⟩:AJ) rfl (fun q hq=>by rw[put,if_neg hq]) (by rw[put,if_pos rfl];rfl)
    | some u =>
     dsimp only[Option.map_some]
     have hb:(decide (DM ((CA (BL m.Kind m.Edges m.Stats) d).toNat+(0#64:AC).toNat+(BL m.Kind m.Edges m.Stats (s&&&~~~AN i) (AN i) (Nv m.Edges (s&&&~~~AN i) (AN i)).Preds).toNat)<(FX (BL m.Kind m.Edges m.Stats) u).costs) || (DM ((CA (BL m.Kind m.Edges m.Stats) d).toNat+(0#64:AC).toNat+(BL m.Kind m.Edges m.Stats (s&&&~~~AN i) (AN i) (Nv m.Edges (s&&&~~~AN i) (AN i)).Preds).toNat) == (FX (BL m.Kind m.Edges m.Stats) u).costs&&decide ((s&&&~~~AN i)<(FX (BL m.Kind m.Edges m.Stats) u).first)))=FU (BL m.Kind m.Edges m.Stats) (Cx m.Edges (s&&&~~~AN i) (AN i) d (BM i)) u:=by
      rw[← hcost]
      unfold FU FX
      rw[MX (t:=Cx m.Edges (s&&&~~~AN i) (AN i) d (BM i)) (a:=d) (b:=BM i) rfl,hdt]
      dsimp only
      have heq:∀ x y:AC,(x == y)=decide (x.toNat=y.toNat):=fun x y=>by
       by_cases h:x=y
       ·subst h;simp
       ·have h2:¬ x.toNat=y.toNat:=fun e=>h (BitVec.eq_of_toNat_eq e)
        rw[decide_eq_false h2];simpa using h
      rw[heq];rfl
     rw[hb]
     have hp2:LS (BL m.Kind m.Edges m.Stats) (some u) (some (Cx m.Edges (s&&&~~~AN i) (AN i) d (BM i)))=if FU (BL m.Kind m.Edges m.Stats) (Cx m.Edges (s&&&~~~AN i) (AN i) d (BM i)) u=true then some (Cx m.Edges (s&&&~~~AN i) (AN i) d (BM i)) else some u:=rfl
     rw[hp2]
     cases hbb:FU (BL m.Kind m.Edges m.Stats) (Cx m.Edges (s&&&~~~AN i) (AN i) d (BM i)) u
     ·simp only[Bool.false_eq_true,if_false]
      exact next _ _ (⟨m,()⟩:AJ) rfl (fun q _=>rfl) h3
     ·simp only[if_true]
      exact next _ _ (⟨m,()⟩:AJ) rfl (fun q hq=>by rw[put,if_neg hq]) (by rw[put,if_pos rfl];rfl)
end
section
open Classical
theorem AKc:Ao (0#64:AC)=0:=by
 unfold Ao
 cases hm:BS (0#64:AC) with
 | nil=>rfl
 | cons p l =>
  have:=(FJ 0#64 p).1 (by rw[hm];exact List.mem_cons_self)
  rw[HS] at this;cases this
theorem QH {s all:AC} (h:inS s all=true) (hc:Ao s=1):FC s∈BS all∧s=AN (FC s):=by
 obtain⟨e1,e2,e3⟩:=Qn hc
 refine⟨(FJ all _).2 ((EE s all).1 h _ ?_),e1⟩
 have hh:∀ i,s=AN i→0≤i→i<64→Ad s i=true:=fun i h1 h2 h3=>by rw[h1,Gy];simp[h2,h3]
 exact hh _ e1 e2 e3
theorem AJt {m:AZ} (w:JM m.Edges) (all:AC) (hall:Ao all≤5)
  (hP:∀ a b,(DF m.Edges (Bl m.Edges a b)).length≤1000000∧∀ p∈DF m.Edges (Bl m.Edges a b),p.size≤1000000) (hsz:∀ n s t,Ao s≤5→t∈spF m.Edges n s→t.size≤100000):∀ (post pre:List AC) (mm:List (AC × AG)) (mo:AJ),mo.model=m→pre++post=Ck all →
  (∀ i∈BS all,Cs (AN i) mm=some ⟨BM i,0#64,0#64⟩) →
  (∀ s∈pre,Ao s≠1→Cs s mm=(DD m.Edges (BL m.Kind m.Edges m.Stats) 5 s).map (FX (BL m.Kind m.Edges m.Stats))) →
  (∀ s,s ∉ pre→inS s all=true→Ao s≠1→Cs s mm=none) →
  ∃ mm',Ap.r0 (post,m,mm,mo)=some (mm',(⟨m,()⟩:AJ))∧(∀ i∈BS all,Cs (AN i) mm'=some ⟨BM i,0#64,0#64⟩) ∧
   ∀ s∈Ck all,Ao s≠1→Cs s mm'=(DD m.Edges (BL m.Kind m.Edges m.Stats) 5 s).map (FX (BL m.Kind m.Edges m.Stats)):=by
 intro post
 induction post with
 | nil =>
  intro pre mm mo hmo he i1 i2 i3
  rw[List.append_nil] at he
  rw[Ap.r0]
  exact⟨mm,by rw[← hmo],i1,fun s hs=>i2 s (by rw[he];exact hs)⟩
 | cons s l ih =>
  intro pre mm mo hmo he i1 i2 i3
  have hlt:=NQ all
  rw[← he] at hlt
  obtain⟨_,hl2,hl3⟩:=List.pairwise_append.1 hlt
  rw[List.pairwise_cons] at hl2
  have hsm:s∈Ck all:=by rw[← he];simp
  obtain⟨hs0,hsin⟩:=(ET all s).1 hsm
  have hcs:Ao s≤Ao all:=by have:=JJ hsin;omega
  have hcp:1≤Ao s:=by
   rcases Nat.eq_zero_or_pos (Ao s) with h | h
   ·exact absurd (QX h) hs0
   ·exact h
  have hnp:s ∉ pre:=fun h=>by have:=hl3 s h s List.mem_cons_self;omega
  rw[Ap.r0]
  unfold EC
  dsimp only
  rw[Ky]
  simp -implicitDefEqProofs only[Option.bind_eq_bind,Option.bind_some]
  by_cases hc:Ao s=1
  ·obtain⟨hmin,hse⟩:=QH hsin hc
   have hg:Cs s mm=some ⟨BM (FC s),0#64,0#64⟩:=by
    have:=i1 _ hmin
    rw[← hse] at this;exact this
   rw[hg]
   dsimp only
   rw[Gz _ (by rw[show (BM (FC s)).size=1 by rw[DX];rfl];omega)]
   simp -implicitDefEqProofs only[Option.bind_some,Ee]
   rw[if_pos (by rfl),Lu]
   simp -implicitDefEqProofs only[Option.bind_some]
   rw[if_pos (by unfold Ao at hc;simp[hc])]
   exact ih (pre++[s]) mm (⟨mo.model,()⟩:AJ) hmo (by rw[List.append_assoc];exact he) i1 (fun q hq hcq=>by
     rcases List.mem_append.1 hq with h | h
     ·exact i2 q h hcq
     ·rw[List.mem_singleton] at h;subst h;exact absurd hc hcq) (fun q hq hin hcq=>i3 q (fun h=>hq (List.mem_append_left _ h)) hin hcq)
  ·rw[i3 s hnp hsin hc]
   dsimp only
   rw[Gz _ (by rw[show (⟨0,0,[],[],false⟩:AA).size=1 by rw[DX];rfl];omega)]
   simp -implicitDefEqProofs only[Option.bind_some,Ee]
   rw[if_pos (by rfl),Lu]
   simp -implicitDefEqProofs only[Option.bind_some]
   rw[if_neg (by unfold Ao at hc;simp;omega),Mr]
   simp -implicitDefEqProofs only[Option.bind_some]
   have sub:∀ i∈BS s,i∈BS all∧inS (s&&&~~~AN i) all=true∧Ao (s&&&~~~AN i)+1=Ao s∧(s&&&~~~AN i)∈(if Ao (s&&&~~~AN i)=1 then [s&&&~~~AN i] else pre):=fun i hi=>by
    obtain⟨h1,h2⟩:=PJ hi
    have h3:inS (s&&&~~~AN i) all=true:=(EE _ _).2 fun n hn=>by
     rw[IH,Bool.and_eq_true] at hn
     exact(EE s all).1 hsin n hn.1
    refine⟨(FJ all i).2 ((EE s all).1 hsin i ((FJ s i).1 hi)),h3,h2,?_⟩
    split
    ·exact List.mem_singleton.2 rfl
    ·have h0:s&&&~~~AN i≠0#64:=fun h=>by
      rw[h,AKc] at h2
      exact hc h2.symm
     have h4:=(ET all _).2 ⟨h0,h3⟩
     rw[← he] at h4
     have h5:=NI (AAQ (AN i) s)
     have h6:(s&&&~~~AN i).toNat≠s.toNat:=fun h=>by
      have:=BitVec.eq_of_toNat_eq h
      rw[this] at h2;omega
     rcases List.mem_append.1 h4 with h | h
     ·exact h
     ·rcases List.mem_cons.1 h with h | h
      ·rw[h] at h2;omega
      ·have:=hl2.1 _ h;omega
   obtain⟨mm',k1,k2,k3⟩:=AI6 (m:=m) (es:=m.Edges) rfl w s (fun q=>DD m.Edges (BL m.Kind m.Edges m.Stats) 4 q) hc (fun i hi t ht=>by
     obtain⟨_,_,h3,_⟩:=sub i hi
     have hb:=(MF (es:=m.Edges) (f:=BL m.Kind m.Edges m.Stats) (M:=100000) hsz 4 (s&&&~~~AN i) (by omega)).2 t ht
     exact⟨hsz _ _ _ (by omega) hb.1,HC 4 _ _ hb.1⟩) hP (BS s) [] none mm (⟨mo.model,()⟩:AJ) hmo rfl (fun i hi=>i1 i (sub i hi).1) (fun i hi=>by
     obtain⟨h1,h2,h3,h4⟩:=sub i hi
     by_cases h5:Ao (s&&&~~~AN i)=1
     ·obtain⟨h6,h7⟩:=QH h2 h5
      refine⟨0#64,?_⟩
      have h8:=i1 _ h6
      rw[← h7] at h8
      rw[h8]
      show _=Option.map _ (DD m.Edges (BL m.Kind m.Edges m.Stats) (3+1) (s&&&~~~AN i))
      rw[DD,if_pos h5]
      rw[Option.map_some]
      try dsimp only
      rw[MI (BL m.Kind m.Edges m.Stats) (t:=BM (FC (s&&&~~~AN i))) (by show ([]:List AA).length≠2;simp)]
     ·rw[if_neg h5] at h4
      have h6:=i2 _ h4 h5
      have h7:DD m.Edges (BL m.Kind m.Edges m.Stats) 5 (s&&&~~~AN i)=DD m.Edges (BL m.Kind m.Edges m.Stats) 4 (s&&&~~~AN i):=ACo 5 4 _ (by omega) (by omega) (by omega)
      rw[h7] at h6
      rw[h6]
      cases hb:DD m.Edges (BL m.Kind m.Edges m.Stats) 4 (s&&&~~~AN i) with
      | none=>exact⟨0#64,rfl⟩
      | some t=>exact⟨Nm t,rfl⟩) (by rw[i3 s hnp hsin hc];rfl)
   rw[List.length_nil,show ((0:Nat):Int)=0 from rfl] at k1
   have k1':Ap.l2 (s,BS s,((BS s).length:Int),0,m,mm,(⟨mo.model,()⟩:AJ))=some (mm',(⟨m,()⟩:AJ)):=k1
   refine Eq.subst (motive:=fun z=>∃ mm'',(z.bind fun o32=>Ap.r0 (l,m,o32.1,(⟨o32.2.model,()⟩:AJ)))=some (mm'',(⟨m,()⟩:AJ))∧(∀ i∈BS all,Cs (AN i) mm''=some ⟨BM i,0#64,0#64⟩)∧∀ s∈Ck all,Ao s≠1→Cs s mm''=(DD m.Edges (BL m.Kind m.Edges m.Stats) 5 s).map (FX (BL m.Kind m.Edges m.Stats))) k1'.symm ?_
   simp -implicitDefEqProofs only[Option.bind_some]
   refine ih (pre++[s]) mm' (⟨m,()⟩:AJ) rfl (by rw[List.append_assoc];exact he) (fun i hi=>?_) (fun q hq hcq=>?_) (fun q hq hin hcq=>?_)
   ·rw[k2 _ (fun h=>hc (by rw[← h];exact(MY (Eh all i hi)).2))];exact i1 i hi
   ·rcases List.mem_append.1 hq with h | h
    ·rw[k2 q (fun e=>hnp (e ▸ h))];exact i2 q h hcq
    ·rw[List.mem_singleton] at h;subst h
     rw[k3]
     congr 1
     show _=DD m.Edges (BL m.Kind m.Edges m.Stats) (4+1) q
     rw[DD,if_neg hc]
   ·rw[k2 q (fun e=>hq (by rw[e];simp))];exact i3 q (fun h=>hq (List.mem_append_left _ h)) hin hcq
end
section
theorem RO {m:AZ} (w:JM m.Edges) (t:AA) (ht:t.size≤1000000) (hall:Ao (AX t)≤5) (h0:AX t≠0#64)
  (hP:∀ a b,(DF m.Edges (Bl m.Edges a b)).length≤1000000∧∀ p∈DF m.Edges (Bl m.Edges a b),p.size≤1000000) (hsz:∀ n s t,Ao s≤5→t∈spF m.Edges n s→t.size≤100000) :
  Ap (m,t)=some (match DD m.Edges (BL m.Kind m.Edges m.Stats) 5 (AX t) with
   | some x=>(x,CA (BL m.Kind m.Edges m.Stats) x,true)
   | none=>(⟨0,0,[],[],false⟩,0#64,false)):=by
 have hself:inS (AX t) (AX t)=true:=(EE _ _).2 fun n h=>h
 have hmem:AX t∈Ck (AX t):=(ET _ _).2 ⟨h0,hself⟩
 obtain⟨mm,n1,n2⟩:=AA6 m (AX t) (Mr _)
 obtain⟨mm',r1,r2,r3⟩:=AJt (m:=m) w (AX t) hall hP hsz (Ck (AX t)) [] mm (⟨m,()⟩:AJ) rfl rfl (fun i hi=>by
   rw[n2,if_pos ⟨i,hi,rfl⟩,(MY (Eh _ i hi)).1]) (fun s hs=>by cases hs) (fun s _ hin hc=>by
   rw[n2,if_neg]
   rintro⟨i,hi,rfl⟩
   exact hc (MY (Eh _ i hi)).2)
 unfold Ap
 dsimp only
 rw[WS t (by omega)]
 simp -implicitDefEqProofs only[Option.bind_eq_bind,Option.bind_some]
 rw[Lu]
 simp -implicitDefEqProofs only[Option.bind_some]
 rw[if_neg (by unfold Ao at hall;simp;omega),n1]
 simp -implicitDefEqProofs only[Option.bind_some]
 rw[YO]
 simp -implicitDefEqProofs only[Option.bind_some]
 rw[r1]
 simp -implicitDefEqProofs only[Option.bind_some]
 unfold EC
 dsimp only
 rw[Ky]
 simp -implicitDefEqProofs only[Option.bind_eq_bind,Option.bind_some]
 by_cases hc:Ao (AX t)=1
 ·obtain⟨hmin,hse⟩:=QH hself hc
  have hg:Cs (AX t) mm'=some ⟨BM (FC (AX t)),0#64,0#64⟩:=by
   have:=r2 _ hmin
   rw[← hse] at this;exact this
  have hb:DD m.Edges (BL m.Kind m.Edges m.Stats) 5 (AX t)=some (BM (FC (AX t))):=by
   show DD m.Edges (BL m.Kind m.Edges m.Stats) (4+1) (AX t)=_
   rw[DD,if_pos hc]
  rw[hg,hb]
  dsimp only
  rw[Gz _ (by rw[show (BM (FC (AX t))).size=1 by rw[DX];rfl];omega),MI (BL m.Kind m.Edges m.Stats) (t:=BM (FC (AX t))) (by show ([]:List AA).length≠2;simp)]
  rfl
 ·rw[r3 _ hmem hc]
  cases hb:DD m.Edges (BL m.Kind m.Edges m.Stats) 5 (AX t) with
  | none =>
   simp only[Option.map_none]
   rw[Gz _ (by rw[show (⟨0,0,[],[],false⟩:AA).size=1 by rw[DX];rfl];omega)]
   rfl
  | some x =>
   simp only[Option.map_some,FX]
   have hx:=(MF (es:=m.Edges) (f:=BL m.Kind m.Edges m.Stats) (M:=100000) hsz 5 (AX t) hall).2 x hb
   have hxs:=hsz 5 _ x hall hx.1
   rw[Gz x (by omega)]
   rfl
end
section
@[go_sem] theorem AO2:lrp Tryz.prog 56 1=(6,[]):=by kernel_rfl
theorem ALP:okF Tryz.f56=true:=by kernel_rfl
def Jo (x:AA):Option (List AA) :=
 Ar x>>=fun r1 =>
 Aj x>>=fun r3 =>
 As (r1,r3)>>=fun r5 =>
 some r5
instance Jo.w:AH Jo (fun x r=>Fn Tryz.prog 56 [.agg (AA.C x)] (.slice .foreign (r.map AA.av))):=⟨by
 intro x r h
 rw[Jo] at h
 try dsimp only
 refine Fn.of_lc mix ANn ALP (by rfl) (flC (AA.flatC _) (flN)) (AT _ AA.flat _) ?_
 simp -implicitDefEqProofs only[go_sem,Tryz.f56]
 exact AR⟩
end
section
@[go_sem] theorem AOO:lrp Tryz.prog 14 11=(10,[]):=by kernel_rfl
theorem AMM:okF Tryz.f14=true:=by kernel_rfl
def Cg.l0 (x:List AA × List AA × Int × Aq × AA × AA):Option (List AA) :=
 if(decide (x.2.2.1<(x.1.length:Int)))=true then
  (AU x.1 x.2.2.1)>>=fun (e4:AA) =>
  Cw e4>>=fun r6 =>
  if r6=true then
   (room 72 x.2.1 ([e4]))>>=fun (z9:List AA) =>
   Cg.l0 (x.1,z9,(w64 (x.2.2.1+1)),x.2.2.2.1,x.2.2.2.2.1,x.2.2.2.2.2)
  else
   Cg.l0 (x.1,x.2.1,(w64 (x.2.2.1+1)),x.2.2.2.1,x.2.2.2.2.1,x.2.2.2.2.2)
 else
  some x.2.1
 partial_fixpoint
theorem Cg.l0.ws:PC Cg.l0 (fun x o=>∀ lo c (Q:EP) (hb:∀ s:List AA,o=s→Q (.exit 0) ⟨[(2,.lref 2 0),(3,.lref 3 0),(4,.lref 4 0),(8,.own 100800 5 (s.map AA.av))],[(2,[.v (.i64 x.2.2.2.1.Kind),.v (.slice .foreign (x.2.2.2.1.Edges.map AD.av)),.v (.slice .foreign (x.2.2.2.1.Stats.Rows.map AV.w)),.v (.slice .foreign (x.2.2.2.1.Stats.Sel.map AV.w))]),(3,[.v (.i64 x.2.2.2.2.1.Kind),.v (.i64 x.2.2.2.2.1.Table),.v (.slice .foreign (x.2.2.2.2.1.Kids.map AA.av)),.v (.slice .foreign (x.2.2.2.2.1.Conj.map AB.av)),.v (.bool x.2.2.2.2.1.Hash)]),(4,[.v (.i64 x.2.2.2.2.2.Kind),.v (.i64 x.2.2.2.2.2.Table),.own 20000402 5 (x.2.2.2.2.2.Kids.map AA.av),.own 20000403 14 (x.2.2.2.2.2.Conj.map AB.av),.v (.bool x.2.2.2.2.2.Hash)])]⟩),AK Tryz.prog 14 lo c 0 (VQ Q) ⟨[(2,.lref 2 0),(3,.lref 3 0),(4,.lref 4 0),(7,.v (.slice .foreign (x.1.map AA.av))),(8,.own 100800 5 (x.2.1.map AA.av)),(9,.v (.i64 x.2.2.1))],[(2,[.v (.i64 x.2.2.2.1.Kind),.v (.slice .foreign (x.2.2.2.1.Edges.map AD.av)),.v (.slice .foreign (x.2.2.2.1.Stats.Rows.map AV.w)),.v (.slice .foreign (x.2.2.2.1.Stats.Sel.map AV.w))]),(3,[.v (.i64 x.2.2.2.2.1.Kind),.v (.i64 x.2.2.2.2.1.Table),.v (.slice .foreign (x.2.2.2.2.1.Kids.map AA.av)),.v (.slice .foreign (x.2.2.2.2.1.Conj.map AB.av)),.v (.bool x.2.2.2.2.1.Hash)]),(4,[.v (.i64 x.2.2.2.2.2.Kind),.v (.i64 x.2.2.2.2.2.Table),.own 20000402 5 (x.2.2.2.2.2.Kids.map AA.av),.own 20000403 14 (x.2.2.2.2.2.Conj.map AB.av),.v (.bool x.2.2.2.2.2.Hash)])]⟩):=by
 refine Cg.l0.partial_correctness _ ?_
 ·intro SQ RT x o h
  have AFk:AH SQ _:=⟨RT⟩
  intro lo c Q hb
  refine AK.step mix AHX (by kernel_rfl) ?_
  simp -implicitDefEqProofs only[go_sem,Tryz.f14]
  exact AR
instance Cg.l0.w:type_of% (AH.mk Cg.l0.ws):=⟨Cg.l0.ws⟩
def Cg (x:Aq × AA):Option (AA × AC × Bool) :=
 Jo x.2>>=fun r1 =>
 Cg.l0 (r1,([]:List AA),0,x.1,x.2,(⟨0,0,[],[],false⟩:AA))>>=fun (o11:List AA) =>
 At (x.1,o11)>>=fun r13 =>
 if(decide (r13<0))=true then
  some ((⟨0,0,[],[],false⟩:AA),0#64,false)
 else
  Aj x.2>>=fun r16 =>
  DO r16>>=fun r18 =>
  if(decide (r18 > 12))=true then
   some ((⟨0,0,[],[],false⟩:AA),0#64,false)
  else
   (AU o11 r13)>>=fun (e21:AA) =>
   CE (x.1,e21)>>=fun r23 =>
   some (e21,r23,true)
instance Cg.w:AH Cg (fun x r=>Fn Tryz.prog 14 [.agg (Aq.C x.1),.agg (AA.C x.2)] (.tuple [.agg (AA.C r.1),.w r.2.1,.bool r.2.2])):=⟨by
 intro x r h
 rw[Cg] at h
 try dsimp only
 refine Fn.of_lc mix AHX AMM (by rfl) (flC (Aq.flatC _) (flC (AA.flatC _) (flN))) (.tuple _ (flC (AA.flatC _) (flC (.atom _) (flC (.atom _) (flN))))) ?_
 simp -implicitDefEqProofs only[go_sem,Tryz.f14]
 exact AR⟩
end
section
theorem AA8 {t:AA}:∀ {l:List AA},t∈l→∃ pre post,l=pre++t :: post∧t ∉ pre:=by
 intro l
 induction l with
 | nil=>intro h;cases h
 | cons x l ih =>
  intro h
  by_cases e:x=t
  ·subst e;exact⟨[],l,rfl,fun h=>by cases h⟩
  ·rcases List.mem_cons.1 h with h | h
   ·exact absurd h.symm e
   ·obtain⟨pre,post,h1,h2⟩:=ih h
    exact⟨x :: pre,post,by rw[h1];rfl,fun h3=>(List.mem_cons.1 h3).elim (fun h4=>e h4.symm) h2⟩
theorem AGM (r:Aq) (q z:AA) (all:List AA) (hs:∀ t∈all,t.size≤1000000) (hl:all.length≤100000):∀ (post pre acc:List AA),pre++post=all→acc.length≤pre.length→Cg.l0 (all,acc,(pre.length:Int),r,q,z)=some (acc++post.filter isD):=by
 intro post
 induction post with
 | nil=>intro pre acc he _;rw[List.append_nil] at he;subst he;rw[Cg.l0,if_neg (dge (by dsimp only;omega))];simp
 | cons x l ih =>
  intro pre acc he ha
  have hlen:pre.length+(l.length+1)=all.length:=by rw[← he,List.length_append];rfl
  rw[Cg.l0,if_pos (dlt (by dsimp only;omega))]
  dsimp only
  have hg:AU all (pre.length:Int)=some x:=by rw[← he,FB]
  rw[hg]
  simp -implicitDefEqProofs only[Option.bind_eq_bind,Option.bind_some]
  rw[Sr x (hs x (by rw[← he];simp))]
  simp -implicitDefEqProofs only[Option.bind_some]
  rw[Aa (by omega),List.filter_cons]
  have hn:=fun acc' h=>ih (pre++[x]) acc' (by rw[List.append_assoc];exact he) (by rw[CX];exact h)
  rw[CX] at hn
  cases isD x
  ·simp only[Bool.false_eq_true,if_false]
   exact hn acc (by omega)
  ·simp only[if_true]
   rw[Bt (by simp only[List.length_cons,List.length_nil];omega)]
   simp -implicitDefEqProofs only[Option.bind_some]
   rw[hn _ (by rw[CX];omega),List.append_assoc];rfl
theorem Xr {r:Aq} (w:JM r.Edges) (t:AA) (he:Ar t=some r.Edges) (ht:t.size≤1000000) (hall:Ao (AX t)≤5)
  (hsz:∀ n s t,Ao s≤5→t∈spF r.Edges n s→t.size≤100000) :
  Cg (r,t)=some (match DD r.Edges (BL r.Kind r.Edges r.Stats) 5 (AX t) with
   | some x=>(x,CA (BL r.Kind r.Edges r.Stats) x,true)
   | none=>(⟨0,0,[],[],false⟩,0#64,false)):=by
 have hE:r.Edges.length<9223372036854775808:=by have:=w.len;omega
 have hlen:=WY r.Edges 5 (AX t) hall
 have hlen2:(spF r.Edges 5 (AX t)).length≤16384:=by
  have:Ao (AX t)=0∨Ao (AX t)=1∨Ao (AX t)=2∨Ao (AX t)=3∨Ao (AX t)=4∨Ao (AX t)=5:=by omega
  rcases this with e | e | e | e | e | e <;> rw[e] at hlen <;> simp[spL] at hlen <;> omega
 have hs:∀ x∈spF r.Edges 5 (AX t),x.size≤100000:=fun x hx=>hsz 5 _ x hall hx
 obtain⟨b1,b2⟩:=MF (es:=r.Edges) (f:=BL r.Kind r.Edges r.Stats) (M:=100000) hsz 5 (AX t) hall
 unfold Cg Jo
 dsimp only
 rw[he,Cz t (by omega)]
 simp -implicitDefEqProofs only[Option.bind_eq_bind,Option.bind_some]
 rw[ABE w 5 (AX t) hall hall (by omega)]
 simp -implicitDefEqProofs only[Option.bind_some]
 have h0:=AGM r t (⟨0,0,[],[],false⟩:AA) (spF r.Edges 5 (AX t)) (fun x hx=>by have:=hs x hx;omega) (by omega) (spF r.Edges 5 (AX t)) [] [] rfl (Nat.le_refl _)
 rw[List.length_nil,show ((0:Nat):Int)=0 from rfl,List.nil_append] at h0
 rw[h0]
 simp -implicitDefEqProofs only[Option.bind_some]
 cases hb:DD r.Edges (BL r.Kind r.Edges r.Stats) 5 (AX t) with
 | none =>
  have hf:(spF r.Edges 5 (AX t)).filter isD=[]:=by
   rw[List.filter_eq_nil_iff]
   intro x hx;rw[b1 hb x hx];simp
  rw[hf]
  have h1:At (r,[])=some (-1):=by
   unfold At
   dsimp only
   rw[At.l0,if_neg (by simp)];rfl
  rw[h1];rfl
 | some x =>
  obtain⟨x1,x2,x3⟩:=b2 x hb
  have hx:x∈(spF r.Edges 5 (AX t)).filter isD:=List.mem_filter.2 ⟨x1,x2⟩
  obtain⟨pre,post,hl,hnp⟩:=AA8 hx
  have hmem:∀ y∈(spF r.Edges 5 (AX t)).filter isD,y∈spF r.Edges 5 (AX t)∧isD y=true:=fun y hy=>List.mem_filter.1 hy
  have hfl:=List.length_filter_le isD (spF r.Edges 5 (AX t))
  have hk:pre.length<((spF r.Edges 5 (AX t)).filter isD).length:=by rw[hl,List.length_append,List.length_cons];omega
  have hget:((spF r.Edges 5 (AX t)).filter isD)[pre.length]=x:=by simp[hl]
  have hF:ABh (BL r.Kind r.Edges r.Stats) ((spF r.Edges 5 (AX t)).filter isD) pre.length:=by
   refine⟨hk,fun j hj=>?_,fun j hj hlt=>?_⟩
   ·rw[hget]
    obtain⟨y1,y2⟩:=hmem _ (List.getElem_mem hj)
    exact x3 _ y1 y2
   ·rw[hget]
    obtain⟨y1,y2⟩:=hmem _ (List.getElem_mem hj)
    have h1:=x3 _ y1 y2
    have h2:Cq (BL r.Kind r.Edges r.Stats) x ((spF r.Edges 5 (AX t)).filter isD)[j]≠0:=fun h=>by
     have e:=AC7 5 (AX t) _ _ x1 y1 h
     apply hnp
     rw[e]
     have:((spF r.Edges 5 (AX t)).filter isD)[j]=pre[j]:=by
      simp only[hl]
      rw[List.getElem_append_left hlt]
     rw[this];exact List.getElem_mem hlt
    omega
  rw[Wk r hE _ (by omega) (fun y hy=>by have:=hs y (hmem y hy).1;omega) hF]
  simp -implicitDefEqProofs only[Option.bind_some]
  rw[if_neg (by simp),KF]
  simp -implicitDefEqProofs only[Option.bind_some]
  rw[if_neg (by unfold Ao at hall;simp;omega),Ai hk,hget]
  simp -implicitDefEqProofs only[Option.bind_some]
  rw[Lr r hE x (by have:=hs x x1;omega)]
  rfl
end
section
theorem AN8:okF Tryz.f8=true:=by kernel_rfl
def HK (x:BY × Int):Option (Bool) :=
 IY x.1>>=fun r1 =>
 if r1=true then
  HM x.1>>=fun r4 =>
  if r4=true then
   Aj x.1.Root>>=fun r7 =>
   DO r7>>=fun r9 =>
   some (decide (r9≤x.2))
  else
   some false
 else
  some false
instance HK.w:AH HK (fun x r=>Fn Tryz.prog 8 [.agg (BY.C x.1),.i64 x.2] (.bool r)):=⟨by
 intro x r h
 rw[HK] at h
 try dsimp only
 refine Fn.of_lc mix APc AN8 (by rfl) (flC (BY.flatC _) (flC (.atom _) (flN))) (.atom _) ?_
 simp -implicitDefEqProofs only[go_sem,Tryz.f8]
 exact AR⟩
end
section
theorem AK5:okF Tryz.f42=true:=by kernel_rfl
def Fe (x:Int × Int):Option (AB) :=
 some (⟨2,0,1,(⟨1,x.1,0,(⟨false,0⟩:BT)⟩:BF),(⟨1,x.2,0,(⟨false,0⟩:BT)⟩:BF),[]⟩:AB)
instance Fe.w:AH Fe (fun x r=>Fn Tryz.prog 42 [.i64 x.1,.i64 x.2] (.agg (AB.C r))):=⟨by
 intro x r h
 rw[Fe] at h
 try dsimp only
 refine Fn.of_lc mix ANC AK5 (by rfl) (flC (.atom _) (flC (.atom _) (flN))) (AB.flatC _) ?_
 simp -implicitDefEqProofs only[go_sem,Tryz.f42]
 exact AR⟩
end
section
theorem AKW:okF Tryz.f41=true:=by kernel_rfl
def HR (x:Int × AA × AA × List AB):Option (AA) :=
 some (⟨x.1,0,[x.2.1,x.2.2.1],x.2.2.2,false⟩:AA)
instance HR.w:AH HR (fun x r=>Fn Tryz.prog 41 [.i64 x.1,.agg (AA.C x.2.1),.agg (AA.C x.2.2.1),.slice .foreign (x.2.2.2.map AB.av)] (.agg (AA.C r))):=⟨by
 intro x r h
 rw[HR] at h
 try dsimp only
 refine Fn.of_lc mix ANb AKW (by rfl) (flC (.atom _) (flC (AA.flatC _) (flC (AA.flatC _) (flC (AT _ AB.flat _) (flN))))) (AA.flatC _) ?_
 simp -implicitDefEqProofs only[go_sem,Tryz.f41]
 exact AR⟩
end
section
theorem AKw:okF Tryz.f44=true:=by kernel_rfl
def He (x:Int):Option (AA) :=
 Db 0>>=fun r1 =>
 Db 1>>=fun r3 =>
 Fe (0,1)>>=fun r5 =>
 HR (x,r1,r3,[r5])>>=fun r7 =>
 some r7
instance He.w:AH He (fun x r=>Fn Tryz.prog 44 [.i64 x] (.agg (AA.C r))):=⟨by
 intro x r h
 rw[He] at h
 try dsimp only
 refine Fn.of_lc mix ANv AKw (by rfl) (flC (.atom _) (flN)) (AA.flatC _) ?_
 simp -implicitDefEqProofs only[go_sem,Tryz.f44]
 exact AR⟩
end
section
theorem ALs:okF Tryz.f43=true:=by kernel_rfl
def Ha (x:Int):Option (AZ) :=
 He 1>>=fun r1 =>
 Ar r1>>=fun r3 =>
 some (⟨x,r3,(⟨[10#64,20#64],[32768#64]⟩:Ay)⟩:AZ)
instance Ha.w:AH Ha (fun x r=>Fn Tryz.prog 43 [.i64 x] (.agg (AZ.C r))):=⟨by
 intro x r h
 rw[Ha] at h
 try dsimp only
 refine Fn.of_lc mix AMs ALs (by rfl) (flC (.atom _) (flN)) (AZ.flatC _) ?_
 simp -implicitDefEqProofs only[go_sem,Tryz.f43]
 exact AR⟩
end
section
@[go_sem] theorem AOm:lrp Tryz.prog 11 3=(7,[]):=by kernel_rfl
@[go_sem] theorem APE:lrp Tryz.prog 11 4=(10,[]):=by kernel_rfl
@[go_sem] theorem AOk:lrp Tryz.prog 11 6=(24,[]):=by kernel_rfl
theorem ALY:okF Tryz.f11=true:=by kernel_rfl
def Dd (x:Unit):Option (Bool) :=
 Db 1>>=fun r1 =>
 Db 2>>=fun r3 =>
 Fe (1,2)>>=fun r5 =>
 HR (1,r1,r3,[r5])>>=fun r7 =>
 Db 0>>=fun r9 =>
 Fe (0,1)>>=fun r11 =>
 HR (2,r9,r7,[r11])>>=fun r13 =>
 Ar r13>>=fun r15 =>
 Ap ((⟨1,r15,(⟨[],[]⟩:Ay)⟩:AZ),r13)>>=fun r17 =>
 Ha 1>>=fun r19 =>
 He 1>>=fun r21 =>
 Ap (r19,r21)>>=fun r23 =>
 if r17.2.2=true then
  some false
 else
  if r23.2.2=true then
   if(r23.2.1 == 100#64)=true then
    He 1>>=fun r28 =>
    Ch (r23.1,r28)>>=fun r30 =>
    if r30=true then
     Cp r7>>=fun r33 =>
     if r33=true then
      Cp r13>>=fun r36 =>
      some (!r36)
     else
      some false
    else
     some false
   else
    some false
  else
   some false
instance Dd.w:AH Dd (fun x r=>Fn Tryz.prog 11 [] (.bool r)):=⟨by
 intro x r h
 rw[Dd] at h
 try dsimp only
 refine Fn.of_lc mix AN5 ALY (by rfl) (flN) (.atom _) ?_
 simp -implicitDefEqProofs only[go_sem,Tryz.f11]
 exact AR⟩
end
section
@[go_sem] theorem AQq:lrp Tryz.prog 3 6=(24,[]):=by kernel_rfl
theorem AN0:okF Tryz.f3=true:=by kernel_rfl
def Eu (x:BY × AZ × AA):Option (Bool) :=
 HK (x.1,5)>>=fun r1 =>
 if r1=true then
  IZ x.2.1>>=fun r4 =>
  if r4=true then
   Aw (x.2.2,301)>>=fun r7 =>
   if(decide (r7 > 300))=true then
    Dd ()>>=fun r10 =>
    some r10
   else
    Ar x.1.Root>>=fun r12 =>
    Ap ((⟨x.2.1.Kind,r12,x.2.1.Stats⟩:AZ),x.1.Root)>>=fun r14 =>
    Cg ((⟨x.2.1.Kind,r12,x.2.1.Stats⟩:Aq),x.1.Root)>>=fun r16 =>
    Ch (r14.1,r16.1)>>=fun r18 =>
    if r18=true then
     if(r14.2.1 == r16.2.1)=true then
      if r14.2.2=true then
       if r16.2.2=true then
        Cp x.2.2>>=fun r24 =>
        Cw x.2.2>>=fun r26 =>
        if r24=true then
         if r26=true then
          Dd ()>>=fun r30 =>
          some r30
         else
          some false
        else
         if r26=true then
          some false
         else
          Dd ()>>=fun r33 =>
          some r33
       else
        some false
      else
       if r16.2.2=true then
        some false
       else
        Cp x.2.2>>=fun r36 =>
        Cw x.2.2>>=fun r38 =>
        if r36=true then
         if r38=true then
          Dd ()>>=fun r42 =>
          some r42
         else
          some false
        else
         if r38=true then
          some false
         else
          Dd ()>>=fun r45 =>
          some r45
     else
      some false
    else
     some false
  else
   Dd ()>>=fun r47 =>
   some r47
 else
  Dd ()>>=fun r49 =>
  some r49
instance Eu.w:AH Eu (fun x r=>Fn Tryz.prog 3 [.agg (BY.C x.1),.agg (AZ.C x.2.1),.agg (AA.C x.2.2)] (.bool r)):=⟨by
 intro x r h
 rw[Eu] at h
 try dsimp only
 refine Fn.of_lc mix AOq AN0 (by rfl) (flC (BY.flatC _) (flC (AZ.flatC _) (flC (AA.flatC _) (flN)))) (.atom _) ?_
 simp -implicitDefEqProofs only[go_sem,Tryz.f3]
 exact AR⟩
end
section
theorem AHL (q:BY) (k:Int):∃ b,HK (q,k)=some b∧(b=true→q.Root.size≤600∧AAG q∧(Ao (AX q.Root):Int)≤k):=by
 unfold HK
 dsimp only
 rw[ZC]
 simp -implicitDefEqProofs only[Option.bind_eq_bind,Option.bind_some]
 by_cases h:q.Root.size≤600
 ·rw[if_pos (decide_eq_true h)]
  obtain⟨b,h1,h2⟩:=Vv q h
  rw[h1]
  simp -implicitDefEqProofs only[Option.bind_some]
  cases b with
  | false=>exact⟨false,by simp,fun h=>by cases h⟩
  | true =>
   rw[if_pos rfl,Cz _ (by omega)]
   simp -implicitDefEqProofs only[Option.bind_some]
   rw[KF]
   exact⟨_,rfl,fun h3=>⟨h,h2 rfl,by simpa [Ao] using h3⟩⟩
 ·rw[if_neg (by simpa using h)]
  exact⟨false,rfl,fun h=>by cases h⟩
theorem VP {l:List AB} {n:Nat} (h:wtC l≤n):l.length≤n∧∀ p∈l,p.size≤n:=by
 unfold wtC at h
 have h1:=Me AB.size KU l
 refine⟨by omega,fun p hp=>?_⟩
 have:∀ l:List AB,p∈l→p.size≤(l.map AB.size).sum:=by
  intro l
  induction l with
  | nil=>intro h;cases h
  | cons x l ih =>
   intro h
   rw[List.map_cons,List.sum_cons]
   rcases List.mem_cons.1 h with rfl | h
   ·omega
   ·have:=ih h;omega
 have:=this l hp
 omega
theorem AAE (hA:Dd ()=some true) (q:BY) (m:AZ) (t:AA):Eu (q,m,t)=some true:=by
 unfold Eu
 dsimp only
 obtain⟨b,h1,h2⟩:=AHL q 5
 rw[h1]
 simp -implicitDefEqProofs only[Option.bind_eq_bind,Option.bind_some]
 cases b with
 | false=>rw[if_neg (by simp),hA];rfl
 | true =>
  obtain⟨hsz,R,hc⟩:=h2 rfl
  have hc:Ao (AX q.Root)≤5:=by omega
  rw[if_pos rfl]
  obtain⟨b2,h3,_⟩:=ZU m
  rw[h3]
  simp -implicitDefEqProofs only[Option.bind_some]
  cases b2 with
  | false=>rw[if_neg (by simp),hA];rfl
  | true =>
   rw[if_pos rfl]
   have hS:=Pg t 301 (by omega) (by omega)
   rw[show ((301:Nat):Int)=301 from rfl] at hS
   rw[hS]
   simp -implicitDefEqProofs only[Option.bind_some]
   by_cases ht:t.size≤300
   ·rw[if_neg (by simp;omega)]
    have ok:=okT R.node
    obtain⟨es,e1,e2,e3⟩:=AG7 R.ncols ok R.nodup (by omega)
    rw[e1]
    simp -implicitDefEqProofs only[Option.bind_some]
    have hW:∀ a b,wtC (DF es (Bl es a b))≤600:=fun a b=>Nat.le_trans (e3 a b) hsz
    have hP:∀ a b,(DF es (Bl es a b)).length≤1000000∧∀ p∈DF es (Bl es a b),p.size≤1000000:=fun a b=>by
     obtain⟨g1,g2⟩:=VP (hW a b)
     exact⟨by omega,fun p hp=>by have:=g2 p hp;omega⟩
    have hsp:∀ n s t,Ao s≤5→t∈spF es n s→t.size≤100000:=fun n s t hs hx=>by
     have h4:=AAL hW n s t hx
     have h5:2 * Ao s * (600+1)≤2 * 5 * (600+1):=Nat.mul_le_mul_right _ (by omega)
     omega
    have hne:AX q.Root≠0#64:=fun h0=>by
     obtain⟨n,hn⟩:=Mf R.ncols q.Root ok
     rw[h0,HS] at hn;cases hn
    have d1:=RO (m:=(⟨m.Kind,es,m.Stats⟩:AZ)) e2 q.Root (by omega) hc hne hP hsp
    have d2:=Xr (r:=(⟨m.Kind,es,m.Stats⟩:Aq)) e2 q.Root e1 (by omega) hc hsp
    rw[d1,d2]
    simp -implicitDefEqProofs only[Option.bind_some]
    have hI:Cp t=some (isD t):=PY t (by omega)
    have hI2:Cw t=some (isD t):=Sr t (by omega)
    cases hb:DD es (BL m.Kind es m.Stats) 5 (AX q.Root) with
    | none =>
     dsimp only
     rw[Kc _ (by rw[DX];simp)]
     simp -implicitDefEqProofs only[Option.bind_some,hI,hI2,hA]
     cases isD t <;> rfl
    | some x =>
     dsimp only
     have hx:=(MF (es:=es) (f:=BL m.Kind es m.Stats) (M:=100000) hsp 5 (AX q.Root) hc).2 x hb
     rw[Kc x (by have:=hsp 5 _ x hc hx.1;omega)]
     simp -implicitDefEqProofs only[Option.bind_some,hI,hI2,hA,beq_self_eq_true,if_true]
     cases isD t <;> rfl
   ·rw[if_pos (by simp;omega),hA];rfl
end
section
def HX:AB:=⟨2,0,1,⟨1,0,0,⟨false,0⟩⟩,⟨1,1,0,⟨false,0⟩⟩,[]⟩
def lf (n:Int):AA:=⟨0,n,[],[],false⟩
def two (k:Int) (a b:Int):AA:=⟨k,0,[lf a,lf b],[HX],false⟩
theorem ABP (n:Int):(lf n).tour=[lf n]:=by rw[Dk];rfl
theorem AGO (k a b:Int):(two k a b).tour=[lf a,lf b,two k a b]:=by
 rw[Dk]
 show [lf a,lf b].flatMap AA.tour++_=_
 simp[ABP]
theorem NK:HX.size=1:=by rw[Im];rfl
theorem OI (n:Int):(lf n).size=1:=by rw[DX];rfl
theorem To (k a b:Int):(two k a b).size=4:=by
 rw[DX]
 show 1+([HX].map AB.size).sum+([lf a,lf b].map AA.size).sum=4
 simp[NK,OI]
theorem ABd (n:Int):AX (lf n)=AN n:=by
 unfold AX
 rw[ABP]
 simp[Ag,lf,GZ,Hs]
theorem Qi (k:Int):He k=some (two k 0 1):=rfl
theorem Nf (t:BF):Du t=some (if t.Kind=1 then AN t.Table else 0#64):=by
 unfold Du
 by_cases h:t.Kind=1
 ·rw[if_neg (by simpa using h),if_pos h,Jg _ (by simp)]
  simp -implicitDefEqProofs only[Option.bind_eq_bind,Option.bind_some]
  rw[GZ,Hs,BitVec.or_zero]
 ·rw[if_pos (by simpa using h),if_neg h]
theorem AAz:BH HX=some (3#64):=by
 rw[BH,Nf,Nf]
 simp -implicitDefEqProofs only[Option.bind_eq_bind,Option.bind_some]
 rw[BH.l0,if_neg (by simp[HX])]
 rfl
theorem ACH:AP (two 1 0 1)=some ⟨[⟨HX,1#64,2#64, -1⟩],[]⟩:=by
 unfold AP
 rw[Kq _ (by rw[To];omega),AGO]
 simp -implicitDefEqProofs only[Option.bind_eq_bind,Option.bind_some]
 have w1:w64 (0+1)=1:=by decide
 have w2:w64 (1+1)=2:=by decide
 have w3:w64 (2+1)=3:=by decide
 have g0:AU [lf 0,lf 1,two 1 0 1] 0=some (lf 0):=rfl
 have g1:AU [lf 0,lf 1,two 1 0 1] 1=some (lf 1):=rfl
 have g2:AU [lf 0,lf 1,two 1 0 1] 2=some (two 1 0 1):=rfl
 have e0:AP.l0 ([lf 0,lf 1,two 1 0 1],([]:List AC),0,(⟨[],[]⟩:AF),(⟨[],[]⟩:AF))=some []:=by
  rw[AP.l0,if_pos (by simp)]
  dsimp only
  rw[g0]
  simp -implicitDefEqProofs only[Option.bind_eq_bind,Option.bind_some]
  rw[if_neg (by simp[lf]),w1]
  rw[AP.l0,if_pos (by simp)]
  dsimp only
  rw[g1]
  simp -implicitDefEqProofs only[Option.bind_eq_bind,Option.bind_some]
  rw[if_neg (by simp[lf]),w2]
  rw[AP.l0,if_pos (by simp)]
  dsimp only
  rw[g2]
  simp -implicitDefEqProofs only[Option.bind_eq_bind,Option.bind_some]
  rw[if_neg (by simp[two]),w3]
  rw[AP.l0,if_neg (by simp)]
 rw[e0]
 simp -implicitDefEqProofs only[Option.bind_some]
 rw[AP.l1,if_pos (by simp)]
 dsimp only
 rw[g0]
 simp -implicitDefEqProofs only[Option.bind_eq_bind,Option.bind_some]
 rw[if_pos (by simp[lf]),w1]
 rw[AP.l1,if_pos (by simp)]
 dsimp only
 rw[g1]
 simp -implicitDefEqProofs only[Option.bind_eq_bind,Option.bind_some]
 rw[if_pos (by simp[lf]),w2]
 rw[AP.l1,if_pos (by simp)]
 dsimp only
 rw[g2]
 simp -implicitDefEqProofs only[Option.bind_eq_bind,Option.bind_some]
 rw[if_neg (by simp[two])]
 have k0:(two 1 0 1).Kids[0]?=some (lf 0):=rfl
 have k1:(two 1 0 1).Kids[1]?=some (lf 1):=rfl
 rw[k0,k1]
 simp -implicitDefEqProofs only[Option.bind_some]
 rw[Cz _ (by rw[OI];omega),Cz _ (by rw[OI];omega),ABd,ABd]
 simp -implicitDefEqProofs only[Option.bind_some]
 rw[AP.l2,if_neg (by simp)]
 simp -implicitDefEqProofs only[Option.bind_some]
 rw[AP.l3,if_pos (by simp[two])]
 dsimp only
 have c0:AU (two 1 0 1).Conj 0=some HX:=rfl
 rw[c0]
 simp -implicitDefEqProofs only[Option.bind_eq_bind,Option.bind_some]
 rw[AAz]
 simp -implicitDefEqProofs only[Option.bind_some]
 rw[if_pos (by simp[two]),Bt (by simp)]
 simp -implicitDefEqProofs only[Option.bind_some]
 rw[w1,AP.l3,if_neg (by simp[two])]
 simp -implicitDefEqProofs only[Option.bind_some]
 rw[if_neg (by simp[two]),w3]
 rw[AP.l1,if_neg (by simp)]
 rfl
theorem AC2 (l:AF) (h:l.Ops=[]) (hj:l.Joins.length≤1000000):Bg l=some l:=by
 obtain⟨js,os⟩:=l
 dsimp only at h hj
 subst h
 unfold Bg Ej
 dsimp only
 rw[Bt (by simp;omega),Bt (by simp)]
 simp -implicitDefEqProofs only[Option.bind_eq_bind,Option.bind_some,List.nil_append]
 have w0:(0:Int)≤w64 ((([]:List AI).length:Int) * (([]:List AI).length:Int)):=by decide
 rw[Bg.l0,if_pos (decide_eq_true w0)]
 dsimp only
 have:Ab (⟨js,[]⟩:AF)=some (-1, -1):=by
  unfold Ab
  rw[Ab.l0,if_neg (by simp)]
  rfl
 rw[this]
 rfl
theorem UM (l:AF) (h:l.Ops=[]) (k:Int) (s:AC):Ak (l,k,s)=some s:=by
 unfold Ak
 dsimp only
 rw[Ak.l0]
 dsimp only
 rw[Ak.l1,if_neg (by simp[h])]
 simp -implicitDefEqProofs only[Option.bind_eq_bind,Option.bind_some]
 rw[if_pos (by simp)]
 rfl
theorem ADz:Ar (two 1 0 1)=some [⟨1,[HX],3#64,1#64,2#64⟩]:=by
 unfold Ar
 rw[ACH]
 simp -implicitDefEqProofs only[Option.bind_eq_bind,Option.bind_some]
 rw[AC2 _ rfl (by simp)]
 simp -implicitDefEqProofs only[Option.bind_some]
 rw[Ar.l0,if_pos (by simp)]
 dsimp only
 have g:AU [(⟨HX,1#64,2#64, -1⟩:AQ)] 0=some ⟨HX,1#64,2#64, -1⟩:=rfl
 rw[g]
 simp -implicitDefEqProofs only[Option.bind_eq_bind,Option.bind_some]
 rw[UM _ rfl,UM _ rfl]
 simp -implicitDefEqProofs only[Option.bind_some]
 rw[Bt (by simp)]
 simp -implicitDefEqProofs only[Option.bind_some]
 have w1:w64 (0+1)=1:=by decide
 rw[w1,Ar.l0,if_neg (by simp)]
 simp -implicitDefEqProofs only[Option.bind_some]
 rw[Ar.l1,if_neg (by simp)]
 rfl
theorem Zb (k:Int):Ha k=some ⟨k,[⟨1,[HX],3#64,1#64,2#64⟩],⟨[10#64,20#64],[32768#64]⟩⟩:=by
 unfold Ha
 rw[Qi]
 simp -implicitDefEqProofs only[Option.bind_eq_bind,Option.bind_some]
 rw[ADz];rfl
end
section
class Le {α:Type} (a b:Option α):Prop where
 le:∀ r,a=some r→b=some r
instance (priority:=low) Le.refl {α:Type} (a:Option α):Le a a:=⟨fun _ h=>h⟩
instance Le.none {α:Type} (a:Option α):Le Option.none a:=⟨fun _ h=>by cases h⟩
instance Le.bind {α β:Type} {a b:Option α} {f g:α→Option β} [h:Le a b] [k:∀ x,Le (f x) (g x)]:Le (a>>=f) (b>>=g):=⟨by
 intro r h1
 obtain⟨x,hx,h2⟩:=AE h1
 rw[h.le x hx]
 exact(k x).le r h2⟩
instance Le.ite {α:Type} {c:Prop} [Decidable c] {a b x y:Option α} [h:Le a x] [k:Le b y]:Le (if c then a else b) (if c then x else y):=⟨by
 by_cases hc:c
 ·rw[if_pos hc,if_pos hc];exact h.le
 ·rw[if_neg hc,if_neg hc];exact k.le⟩
theorem Le.tells {α:Type} {a b:Option α} {r:α} [h:Le a b] (e:a=some r):b=some r:=h.le r e
theorem leA {G:Prop} (k:G:=by
 repeat' first
  | exact inferInstance
  | refine @Le.bind _ _ _ _ _ _ ?_ (fun _=>?_)
  | refine @Le.ite _ _ _ _ _ _ _ ?_ ?_
  | split):G:=k
end
section
def Dr.l0 (n:Nat) (x:Int × AC × Int):Option (AC) :=
 match n with
 | 0=>none
 | n+1 =>
  if(decide (x.2.2<x.1))=true then
   Dr.l0 n (x.1,(x.2.1 * 2#64),(w64 (x.2.2+1)))
  else
   some x.2.1
instance Dr.l0.le (n:Nat):∀ x,Le (Dr.l0 n x) (Bb.l0 x):=by
 induction n with
 | zero=>intro x;rw[Dr.l0];exact Le.none _
 | succ n ih =>
  intro x;rw[Dr.l0,Bb.l0];exact leA
def Dr (n:Nat) (x:Int):Option (AC) :=
 Dr.l0 n (x,1#64,0)>>=fun o2 =>
 some o2
instance Dr.le (n x):Le (Dr n x) (Bb x):=by unfold Dr Bb;exact leA
def Hd (n:Nat) (x:AC × Int):Option (Bool) :=
 if(decide (x.2 ≥ 0))=true then
  if(decide (x.2<64))=true then
   Dr n x.2>>=fun r3 =>
   if r3=0#64 then none else
   some (((x.1 / r3) % 2#64) == 1#64)
  else
   some false
 else
  some false
instance Hd.le (n x):Le (Hd n x) (CU x):=by unfold Hd CU;exact leA
def EG.l0 (n:Nat) (x:AC × List Int × Int):Option (List Int) :=
 match n with
 | 0=>none
 | n+1 =>
  if(decide (x.2.2<64))=true then
   Hd n (x.1,x.2.2)>>=fun r2 =>
   if r2=true then
    (room 8 x.2.1 ([x.2.2]))>>=fun z5 =>
    EG.l0 n (x.1,z5,(w64 (x.2.2+1)))
   else
    EG.l0 n (x.1,x.2.1,(w64 (x.2.2+1)))
  else
   some x.2.1
instance EG.l0.le (n:Nat):∀ x,Le (EG.l0 n x) (BD.l0 x):=by
 induction n with
 | zero=>intro x;rw[EG.l0];exact Le.none _
 | succ n ih =>
  intro x;rw[EG.l0,BD.l0];exact leA
def EG (n:Nat) (x:AC):Option (List Int) :=
 EG.l0 n (x,([]:List Int),0)>>=fun o7 =>
 some o7
instance EG.le (n x):Le (EG n x) (BD x):=by unfold EG BD;exact leA
def KcOq (n:Nat) (x:AC):Option (Int) :=
 EG n x>>=fun r1 =>
 some (r1.length:Int)
instance KcOq.le (n x):Le (KcOq n x) (DO x):=by unfold KcOq DO;exact leA
def Ek.l0 (n:Nat) (x:AC × AC × Int):Option (Lp (Unit) (Bool)) :=
 match n with
 | 0=>none
 | n+1 =>
  if(decide (x.2.2<64))=true then
   Hd n (x.1,x.2.2)>>=fun r2 =>
   if r2=true then
    Hd n (x.2.1,x.2.2)>>=fun r5 =>
    if r5=true then
     Ek.l0 n (x.1,x.2.1,(w64 (x.2.2+1)))
    else
     some (.ret false)
   else
    Ek.l0 n (x.1,x.2.1,(w64 (x.2.2+1)))
  else
   some (.brk ())
instance Ek.l0.le (n:Nat):∀ x,Le (Ek.l0 n x) (Bo.l0 x):=by
 induction n with
 | zero=>intro x;rw[Ek.l0];exact Le.none _
 | succ n ih =>
  intro x;rw[Ek.l0,Bo.l0];exact leA
def Ek (n:Nat) (x:AC × AC):Option (Bool) :=
 Ek.l0 n (x.1,x.2,0)>>=fun o8=>match o8 with
 | .brk s11 =>
  some true
 | .ret r10 =>
  some r10
instance Ek.le (n x):Le (Ek n x) (Bo x):=by unfold Ek Bo;exact leA
def DH.l1 (n:Nat) (x:List Int × AC × Int × Int):Option (AC) :=
 match n with
 | 0=>none
 | n+1 =>
  if(decide (x.2.2.2<(x.1.length:Int)))=true then
   (AU x.1 x.2.2.2)>>=fun e3 =>
   if(e3 == x.2.2.1)=true then
    Dr n x.2.2.1>>=fun r6 =>
    some (x.2.1+r6)
   else
    DH.l1 n (x.1,x.2.1,x.2.2.1,(w64 (x.2.2.2+1)))
  else
   some x.2.1
instance DH.l1.le (n:Nat):∀ x,Le (DH.l1 n x) (BE.l1 x):=by
 induction n with
 | zero=>intro x;rw[DH.l1];exact Le.none _
 | succ n ih =>
  intro x;rw[DH.l1,BE.l1];exact leA
def DH.l0 (n:Nat) (x:List Int × AC × Int):Option (AC) :=
 match n with
 | 0=>none
 | n+1 =>
  if(decide (x.2.2<64))=true then
   DH.l1 n (x.1,x.2.1,x.2.2,0)>>=fun o8 =>
   DH.l0 n (x.1,o8,(w64 (x.2.2+1)))
  else
   some x.2.1
instance DH.l0.le (n:Nat):∀ x,Le (DH.l0 n x) (BE.l0 x):=by
 induction n with
 | zero=>intro x;rw[DH.l0];exact Le.none _
 | succ n ih =>
  intro x;rw[DH.l0,BE.l0];exact leA
def DH (n:Nat) (x:List Int):Option (AC) :=
 DH.l0 n (x,0#64,0)>>=fun o10 =>
 some o10
instance DH.le (n x):Le (DH n x) (BE x):=by unfold DH BE;exact leA
def Hk (n:Nat) (x:BF):Option (AC) :=
 if(x.Kind != 1)=true then
  some (0#64)
 else
  DH n ([x.Table])>>=fun r2 =>
  some r2
instance Hk.le (n x):Le (Hk n x) (Du x):=by unfold Hk Du;exact leA
mutual
def DL.l0 (n:Nat) (x:AC × Int × AB):Option (AC) :=
 match n with
 | 0=>none
 | n+1 =>
  if(decide (x.2.1<(x.2.2.Parts.length:Int)))=true then
   (AU x.2.2.Parts x.2.1)>>=fun e6 =>
   DL n e6>>=fun r8 =>
   DL.l0 n ((x.1|||r8),(w64 (x.2.1+1)),x.2.2)
  else
   some x.1
 termination_by structural n
def DL (n:Nat) (x:AB):Option (AC) :=
 match n with
 | 0=>none
 | n+1 =>
  Hk n x.A>>=fun r1 =>
  Hk n x.B>>=fun r3 =>
  DL.l0 n ((r1|||r3),0,x)>>=fun o10 =>
  some o10
 termination_by structural n
end
theorem Qg (n:Nat):(∀ x,Le (DL.l0 n x) (BH.l0 x))∧(∀ x,Le (DL n x) (BH x)):=by
 induction n with
 | zero=>exact⟨fun x=>by rw[DL.l0];exact Le.none _,fun x=>by rw[DL];exact Le.none _⟩
 | succ n ih =>
  obtain⟨i0,i1⟩:=ih
  refine⟨?_,?_⟩
  ·intro x;rw[DL.l0,BH.l0];exact leA
  ·intro x;rw[DL,BH];exact leA
instance DL.le (n x):Le (DL n x) (BH x):=(Qg n).2 x
mutual
def Dv.l0 (n:Nat) (x:List AA × Int × AA):Option (List AA) :=
 match n with
 | 0=>none
 | n+1 =>
  if(decide (x.2.1<(x.2.2.Kids.length:Int)))=true then
   (AU x.2.2.Kids x.2.1)>>=fun e2 =>
   Dv n e2>>=fun r4 =>
   (room 72 x.1 r4)>>=fun z6 =>
   Dv.l0 n (z6,(w64 (x.2.1+1)),x.2.2)
  else
   some x.1
 termination_by structural n
def Dv (n:Nat) (x:AA):Option (List AA) :=
 match n with
 | 0=>none
 | n+1 =>
  Dv.l0 n (([]:List AA),0,x)>>=fun o8 =>
  (room 72 o8 ([x]))>>=fun z10 =>
  some z10
 termination_by structural n
end
theorem UX (n:Nat):(∀ x,Le (Dv.l0 n x) (Bp.l0 x))∧(∀ x,Le (Dv n x) (Bp x)):=by
 induction n with
 | zero=>exact⟨fun x=>by rw[Dv.l0];exact Le.none _,fun x=>by rw[Dv];exact Le.none _⟩
 | succ n ih =>
  obtain⟨i0,i1⟩:=ih
  refine⟨?_,?_⟩
  ·intro x;rw[Dv.l0,Bp.l0];exact leA
  ·intro x;rw[Dv,Bp];exact leA
instance Dv.le (n x):Le (Dv n x) (Bp x):=(UX n).2 x
def DA.l0 (n:Nat) (x:List Int × List AA × Int):Option (List Int) :=
 match n with
 | 0=>none
 | n+1 =>
  if(decide (x.2.2<(x.2.1.length:Int)))=true then
   (AU x.2.1 x.2.2)>>=fun e4 =>
   if(e4.Kind == 0)=true then
    (room 8 x.1 ([e4.Table]))>>=fun z7 =>
    DA.l0 n (z7,x.2.1,(w64 (x.2.2+1)))
   else
    DA.l0 n (x.1,x.2.1,(w64 (x.2.2+1)))
  else
   some x.1
instance DA.l0.le (n:Nat):∀ x,Le (DA.l0 n x) (Aj.l0 x):=by
 induction n with
 | zero=>intro x;rw[DA.l0];exact Le.none _
 | succ n ih =>
  intro x;rw[DA.l0,Aj.l0];exact leA
def DA (n:Nat) (x:AA):Option (AC) :=
 Dv n x>>=fun r1 =>
 DA.l0 n (([]:List Int),r1,0)>>=fun o9 =>
 DH n o9>>=fun r11 =>
 some r11
instance DA.le (n x):Le (DA n x) (Aj x):=by unfold DA Aj;exact leA
def BJ.l0 (n:Nat) (x:List AA × List AC × Int × AF × AF):Option (List AC) :=
 match n with
 | 0=>none
 | n+1 =>
  if(decide (x.2.2.1<(x.1.length:Int)))=true then
   (AU x.1 x.2.2.1)>>=fun e4 =>
   if(decide (e4.Kind > 1))=true then
    (e4.Kids[1]?)>>=fun e7 =>
    DA n e7>>=fun r9 =>
    (room 8 x.2.1 ([r9]))>>=fun z11 =>
    BJ.l0 n (x.1,z11,(w64 (x.2.2.1+1)),x.2.2.2.1,x.2.2.2.2)
   else
    BJ.l0 n (x.1,x.2.1,(w64 (x.2.2.1+1)),x.2.2.2.1,x.2.2.2.2)
  else
   some x.2.1
instance BJ.l0.le (n:Nat):∀ x,Le (BJ.l0 n x) (AP.l0 x):=by
 induction n with
 | zero=>intro x;rw[BJ.l0];exact Le.none _
 | succ n ih =>
  intro x;rw[BJ.l0,AP.l0];exact leA
def BJ.l2 (n:Nat) (x:List AA × List AC × Int × AC × AC × Int × Int × AF × AF × AA):Option (Int) :=
 match n with
 | 0=>none
 | n+1 =>
  if(decide (x.2.2.2.2.2.2.1<(x.2.1.length:Int)))=true then
   (AU x.2.1 x.2.2.2.2.2.2.1)>>=fun e28 =>
   Ek n ((x.2.2.2.1|||x.2.2.2.2.1),e28)>>=fun r30 =>
   if r30=true then
    if(decide (x.2.2.2.2.2.1<0))=true then
     BJ.l2 n (x.1,x.2.1,x.2.2.1,x.2.2.2.1,x.2.2.2.2.1,x.2.2.2.2.2.2.1,(w64 (x.2.2.2.2.2.2.1+1)),x.2.2.2.2.2.2.2.1,x.2.2.2.2.2.2.2.2.1,x.2.2.2.2.2.2.2.2.2)
    else
     KcOq n e28>>=fun r34 =>
     (AU x.2.1 x.2.2.2.2.2.1)>>=fun e36 =>
     KcOq n e36>>=fun r38 =>
     if(decide (r34<r38))=true then
      BJ.l2 n (x.1,x.2.1,x.2.2.1,x.2.2.2.1,x.2.2.2.2.1,x.2.2.2.2.2.2.1,(w64 (x.2.2.2.2.2.2.1+1)),x.2.2.2.2.2.2.2.1,x.2.2.2.2.2.2.2.2.1,x.2.2.2.2.2.2.2.2.2)
     else
      BJ.l2 n (x.1,x.2.1,x.2.2.1,x.2.2.2.1,x.2.2.2.2.1,x.2.2.2.2.2.1,(w64 (x.2.2.2.2.2.2.1+1)),x.2.2.2.2.2.2.2.1,x.2.2.2.2.2.2.2.2.1,x.2.2.2.2.2.2.2.2.2)
   else
    BJ.l2 n (x.1,x.2.1,x.2.2.1,x.2.2.2.1,x.2.2.2.2.1,x.2.2.2.2.2.1,(w64 (x.2.2.2.2.2.2.1+1)),x.2.2.2.2.2.2.2.1,x.2.2.2.2.2.2.2.2.1,x.2.2.2.2.2.2.2.2.2)
  else
   some x.2.2.2.2.2.1
instance BJ.l2.le (n:Nat):∀ x,Le (BJ.l2 n x) (AP.l2 x):=by
 induction n with
 | zero=>intro x;rw[BJ.l2];exact Le.none _
 | succ n ih =>
  intro x;rw[BJ.l2,AP.l2];exact leA
def BJ.l3 (n:Nat) (x:List AA × List AC × Int × AC × AC × Int × AC × Int × AF × AF × AA):Option (AC × AF) :=
 match n with
 | 0=>none
 | n+1 =>
  if(decide (x.2.2.2.2.2.2.2.1<(x.2.2.2.2.2.2.2.2.2.2.Conj.length:Int)))=true then
   (AU x.2.2.2.2.2.2.2.2.2.2.Conj x.2.2.2.2.2.2.2.1)>>=fun e44 =>
   DL n e44>>=fun r46 =>
   if(x.2.2.2.2.2.2.2.2.2.2.Kind == 1)=true then
    (room 152 x.2.2.2.2.2.2.2.2.2.1.Joins ([(⟨e44,(r46&&&x.2.2.2.1),(r46&&&x.2.2.2.2.1),x.2.2.2.2.2.1⟩:AQ)]))>>=fun z49 =>
    BJ.l3 n (x.1,x.2.1,x.2.2.1,x.2.2.2.1,x.2.2.2.2.1,x.2.2.2.2.2.1,(x.2.2.2.2.2.2.1|||r46),(w64 (x.2.2.2.2.2.2.2.1+1)),x.2.2.2.2.2.2.2.2.1,(⟨z49,x.2.2.2.2.2.2.2.2.2.1.Ops⟩:AF),x.2.2.2.2.2.2.2.2.2.2)
   else
    BJ.l3 n (x.1,x.2.1,x.2.2.1,x.2.2.2.1,x.2.2.2.2.1,x.2.2.2.2.2.1,(x.2.2.2.2.2.2.1|||r46),(w64 (x.2.2.2.2.2.2.2.1+1)),x.2.2.2.2.2.2.2.2.1,x.2.2.2.2.2.2.2.2.2.1,x.2.2.2.2.2.2.2.2.2.2)
  else
   some (x.2.2.2.2.2.2.1,x.2.2.2.2.2.2.2.2.2.1)
instance BJ.l3.le (n:Nat):∀ x,Le (BJ.l3 n x) (AP.l3 x):=by
 induction n with
 | zero=>intro x;rw[BJ.l3];exact Le.none _
 | succ n ih =>
  intro x;rw[BJ.l3,AP.l3];exact leA
def BJ.l1 (n:Nat) (x:List AA × List AC × Int × AF × AF):Option (AF) :=
 match n with
 | 0=>none
 | n+1 =>
  if(decide (x.2.2.1<(x.1.length:Int)))=true then
   (AU x.1 x.2.2.1)>>=fun e16 =>
   if(e16.Kind == 0)=true then
    BJ.l1 n (x.1,x.2.1,(w64 (x.2.2.1+1)),x.2.2.2.1,x.2.2.2.2)
   else
    (e16.Kids[0]?)>>=fun e19 =>
    DA n e19>>=fun r21 =>
    (e16.Kids[1]?)>>=fun e23 =>
    DA n e23>>=fun r25 =>
    BJ.l2 n (x.1,x.2.1,x.2.2.1,r21,r25, -1,0,x.2.2.2.1,x.2.2.2.2,e16)>>=fun o41 =>
    BJ.l3 n (x.1,x.2.1,x.2.2.1,r21,r25,o41,0#64,0,x.2.2.2.1,x.2.2.2.2,e16)>>=fun o51 =>
    if(decide (e16.Kind > 1))=true then
     (room 64 o51.2.Ops ([(⟨e16.Kind,e16.Conj,(o51.1&&&r21),(o51.1&&&r25),r25,o41⟩:AI)]))>>=fun z54 =>
     BJ.l1 n (x.1,x.2.1,(w64 (x.2.2.1+1)),x.2.2.2.1,(⟨o51.2.Joins,z54⟩:AF))
    else
     BJ.l1 n (x.1,x.2.1,(w64 (x.2.2.1+1)),x.2.2.2.1,o51.2)
  else
   some x.2.2.2.2
instance BJ.l1.le (n:Nat):∀ x,Le (BJ.l1 n x) (AP.l1 x):=by
 induction n with
 | zero=>intro x;rw[BJ.l1];exact Le.none _
 | succ n ih =>
  intro x;rw[BJ.l1,AP.l1];exact leA
def BJ (n:Nat) (x:AA):Option (AF) :=
 Dv n x>>=fun r1 =>
 BJ.l0 n (r1,([]:List AC),0,(⟨[],[]⟩:AF),(⟨[],[]⟩:AF))>>=fun o13 =>
 BJ.l1 n (r1,o13,0,(⟨[],[]⟩:AF),(⟨[],[]⟩:AF))>>=fun o56 =>
 some o56
instance BJ.le (n x):Le (BJ n x) (AP x):=by unfold BJ AP;exact leA
def FG (n:Nat) (x:Bool):Option (Int) :=
 if x=true then
  some 2
 else
  some 0
instance FG.le (n x):Le (FG n x) (Da x):=by unfold FG Da;exact leA
def Ig (n:Nat) (x:Int × BT × BT):Option (Int) :=
 if x.2.1.Null=true then
  some 1
 else
  if x.2.2.Null=true then
   some 1
  else
   if(x.1 == 1)=true then
    FG n (x.2.1.N == x.2.2.N)>>=fun r4 =>
    some r4
   else
    if(x.1 == 2)=true then
     FG n (x.2.1.N != x.2.2.N)>>=fun r7 =>
     some r7
    else
     if(x.1 == 3)=true then
      FG n (decide (x.2.1.N<x.2.2.N))>>=fun r10 =>
      some r10
     else
      if(x.1 == 4)=true then
       FG n (decide (x.2.1.N≤x.2.2.N))>>=fun r13 =>
       some r13
      else
       if(x.1 == 5)=true then
        FG n (decide (x.2.1.N > x.2.2.N))>>=fun r16 =>
        some r16
       else
        if(x.1 == 6)=true then
         FG n (decide (x.2.1.N ≥ x.2.2.N))>>=fun r19 =>
         some r19
        else
         some 1
instance Ig.le (n x):Le (Ig n x) (Ev x):=by unfold Ig Ev;exact leA
def Hl (n:Nat) (x:BF × AC):Option (Bool) :=
 if(x.1.Kind == 1)=true then
  Hd n (x.2,x.1.Table)>>=fun r2 =>
  if r2=true then
   some true
  else
   some false
 else
  some x.1.Value.Null
instance Hl.le (n x):Le (Hl n x) (FF x):=by unfold Hl FF;exact leA
mutual
def Ef.l0 (n:Nat) (x:List AB × AC × Int):Option (Lp (Unit) (Bool)) :=
 match n with
 | 0=>none
 | n+1 =>
  if(decide (x.2.2<(x.1.length:Int)))=true then
   (AU x.1 x.2.2)>>=fun e2 =>
   Fy n (e2,x.2.1,0)>>=fun r4 =>
   if r4=true then
    Ef.l0 n (x.1,x.2.1,(w64 (x.2.2+1)))
   else
    Fy n (e2,x.2.1,1)>>=fun r7 =>
    if r7=true then
     Ef.l0 n (x.1,x.2.1,(w64 (x.2.2+1)))
    else
     Fy n (e2,x.2.1,2)>>=fun r10 =>
     if r10=true then
      Ef.l0 n (x.1,x.2.1,(w64 (x.2.2+1)))
     else
      some (.ret false)
  else
   some (.brk ())
 termination_by structural n
def Fy (n:Nat) (x:AB × AC × Int):Option (Bool) :=
 match n with
 | 0=>none
 | n+1 =>
  if(x.1.Kind == 1)=true then
   if(x.2.2 == x.1.Truth)=true then
    some true
   else
    if(x.2.2 == 1)=true then
     if(decide (x.1.Truth<0))=true then
      some true
     else
      some (decide (x.1.Truth > 2))
    else
     some false
  else
   if(x.1.Kind == 2)=true then
    if(decide (x.1.Op<1))=true then
     some (x.2.2 == 1)
    else
     if(decide (x.1.Op > 6))=true then
      some (x.2.2 == 1)
     else
      Hl n (x.1.A,x.2.1)>>=fun r8 =>
      if r8=true then
       some (x.2.2 == 1)
      else
       Hl n (x.1.B,x.2.1)>>=fun r11 =>
       if r11=true then
        some (x.2.2 == 1)
       else
        if(x.1.A.Kind == 1)=true then
         some true
        else
         if(x.1.B.Kind == 1)=true then
          some true
         else
          Ig n (x.1.Op,x.1.A.Value,x.1.B.Value)>>=fun r16 =>
          some (x.2.2 == r16)
   else
    if(x.1.Kind == 3)=true then
     Hl n (x.1.A,x.2.1)>>=fun r19 =>
     if r19=true then
      some (x.2.2 == 2)
     else
      if(x.2.2 == 0)=true then
       some true
      else
       if(x.2.2 == 2)=true then
        some (x.1.A.Kind == 1)
       else
        some false
    else
     if(x.1.Kind == 4)=true then
      GL n (x.1.Parts,x.2.1,x.2.2,2)>>=fun r25 =>
      some r25
     else
      if(x.1.Kind == 5)=true then
       GL n (x.1.Parts,x.2.1,x.2.2,0)>>=fun r28 =>
       some r28
      else
       if(x.1.Kind == 6)=true then
        if(decide ((x.1.Parts.length:Int) > 0))=true then
         (x.1.Parts[0]?)>>=fun e32 =>
         Fy n (e32,x.2.1,(w64 (2 - x.2.2)))>>=fun r34 =>
         some r34
        else
         some (x.2.2 == 1)
       else
        some (x.2.2 == 1)
 termination_by structural n
def GL (n:Nat) (x:List AB × AC × Int × Int):Option (Bool) :=
 match n with
 | 0=>none
 | n+1 =>
  Ef n (x.1,x.2.1)>>=fun r1 =>
  if r1=true then
   if(x.2.2.1 == x.2.2.2)=true then
    Ds n (x.1,x.2.1,x.2.2.2,x.2.2.2)>>=fun r5 =>
    some r5
   else
    if(x.2.2.1 == 1)=true then
     EY n (x.1,x.2.1,1)>>=fun r8 =>
     if r8=true then
      Ds n (x.1,x.2.1,1,x.2.2.2)>>=fun r11 =>
      some r11
     else
      some false
    else
     EY n (x.1,x.2.1,(w64 (2 - x.2.2.2)))>>=fun r13 =>
     some r13
  else
   some false
 termination_by structural n
def EY (n:Nat) (x:List AB × AC × Int):Option (Bool) :=
 match n with
 | 0=>none
 | n+1 =>
  EY.l0 n (x.1,x.2.1,x.2.2,0)>>=fun o7=>match o7 with
  | .brk s10 =>
   some false
  | .ret r9 =>
   some r9
 termination_by structural n
def EY.l0 (n:Nat) (x:List AB × AC × Int × Int):Option (Lp (Unit) (Bool)) :=
 match n with
 | 0=>none
 | n+1 =>
  if(decide (x.2.2.2<(x.1.length:Int)))=true then
   (AU x.1 x.2.2.2)>>=fun e2 =>
   Fy n (e2,x.2.1,x.2.2.1)>>=fun r4 =>
   if r4=true then
    some (.ret true)
   else
    EY.l0 n (x.1,x.2.1,x.2.2.1,(w64 (x.2.2.2+1)))
  else
   some (.brk ())
 termination_by structural n
def Ds (n:Nat) (x:List AB × AC × Int × Int):Option (Bool) :=
 match n with
 | 0=>none
 | n+1 =>
  Ds.l0 n (x.1,x.2.1,x.2.2.1,x.2.2.2,0)>>=fun o10=>match o10 with
  | .brk s13 =>
   some true
  | .ret r12 =>
   some r12
 termination_by structural n
def Ds.l0 (n:Nat) (x:List AB × AC × Int × Int × Int):Option (Lp (Unit) (Bool)) :=
 match n with
 | 0=>none
 | n+1 =>
  if(decide (x.2.2.2.2<(x.1.length:Int)))=true then
   (AU x.1 x.2.2.2.2)>>=fun e2 =>
   Fy n (e2,x.2.1,x.2.2.1)>>=fun r4 =>
   if r4=true then
    Ds.l0 n (x.1,x.2.1,x.2.2.1,x.2.2.2.1,(w64 (x.2.2.2.2+1)))
   else
    Fy n (e2,x.2.1,x.2.2.2.1)>>=fun r7 =>
    if r7=true then
     Ds.l0 n (x.1,x.2.1,x.2.2.1,x.2.2.2.1,(w64 (x.2.2.2.2+1)))
    else
     some (.ret false)
  else
   some (.brk ())
 termination_by structural n
def Ef (n:Nat) (x:List AB × AC):Option (Bool) :=
 match n with
 | 0=>none
 | n+1 =>
  Ef.l0 n (x.1,x.2,0)>>=fun o13=>match o13 with
  | .brk s16 =>
   some true
  | .ret r15 =>
   some r15
 termination_by structural n
end
theorem VV (n:Nat):(∀ x,Le (Ef.l0 n x) (Ce.l0 x))∧(∀ x,Le (Fy n x) (Dh x))∧(∀ x,Le (GL n x) (FE x))∧(∀ x,Le (EY n x) (DE x))∧(∀ x,Le (EY.l0 n x) (DE.l0 x))∧(∀ x,Le (Ds n x) (Cl x))∧(∀ x,Le (Ds.l0 n x) (Cl.l0 x))∧(∀ x,Le (Ef n x) (Ce x)):=by
 induction n with
 | zero=>exact⟨fun x=>by rw[Ef.l0];exact Le.none _,fun x=>by rw[Fy];exact Le.none _,fun x=>by rw[GL];exact Le.none _,fun x=>by rw[EY];exact Le.none _,fun x=>by rw[EY.l0];exact Le.none _,fun x=>by rw[Ds];exact Le.none _,fun x=>by rw[Ds.l0];exact Le.none _,fun x=>by rw[Ef];exact Le.none _⟩
 | succ n ih =>
  obtain⟨i0,i1,i2,i3,i4,i5,i6,i7⟩:=ih
  refine⟨?_,?_,?_,?_,?_,?_,?_,?_⟩
  ·intro x;rw[Ef.l0,Ce.l0];exact leA
  ·intro x;rw[Fy,Dh];exact leA
  ·intro x;rw[GL,FE];exact leA
  ·intro x;rw[EY,DE];exact leA
  ·intro x;rw[EY.l0,DE.l0];exact leA
  ·intro x;rw[Ds,Cl];exact leA
  ·intro x;rw[Ds.l0,Cl.l0];exact leA
  ·intro x;rw[Ef,Ce];exact leA
instance GL.le (n x):Le (GL n x) (FE x):=(VV n).2.2.1 x
def Ii (n:Nat) (x:List AB × AC):Option (Bool) :=
 GL n (x.1,x.2,2,2)>>=fun r1 =>
 some (!r1)
instance Ii.le (n x):Le (Ii n x) (Ew x):=by unfold Ii Ew;exact leA
def IN (n:Nat) (x:AI):Option (Bool) :=
 if(x.Kind == 2)=true then
  Ii n (x.Conj,x.Left)>>=fun r2 =>
  some r2
 else
  some false
instance IN.le (n x):Le (IN n x) (FI x):=by unfold IN FI;exact leA
def Eg.l0 (n:Nat) (x:List Int × Int × Int):Option (Lp (Unit) (Bool)) :=
 match n with
 | 0=>none
 | n+1 =>
  if(decide (x.2.2<(x.1.length:Int)))=true then
   (AU x.1 x.2.2)>>=fun e2 =>
   if(e2 == x.2.1)=true then
    some (.ret true)
   else
    Eg.l0 n (x.1,x.2.1,(w64 (x.2.2+1)))
  else
   some (.brk ())
instance Eg.l0.le (n:Nat):∀ x,Le (Eg.l0 n x) (CP.l0 x):=by
 induction n with
 | zero=>intro x;rw[Eg.l0];exact Le.none _
 | succ n ih =>
  intro x;rw[Eg.l0,CP.l0];exact leA
def Eg (n:Nat) (x:List Int × Int):Option (Bool) :=
 Eg.l0 n (x.1,x.2,0)>>=fun o5=>match o5 with
 | .brk s8 =>
  some false
 | .ret r7 =>
  some r7
instance Eg.le (n x):Le (Eg n x) (CP x):=by unfold Eg CP;exact leA
def CN.l0 (n:Nat) (x:Int × Int × List Int × List Int × AC × Int × AF):Option (Lp (Unit) (Bool)) :=
 match n with
 | 0=>none
 | n+1 =>
  if(decide (x.2.2.2.2.2.1<(x.2.2.2.2.2.2.Joins.length:Int)))=true then
   (AU x.2.2.2.2.2.2.Joins x.2.2.2.2.2.1)>>=fun e8 =>
   if(e8.Home == x.1)=true then
    if((x.2.2.2.2.1&&&e8.Left) != 0#64)=true then
     some (.ret false)
    else
     if((x.2.2.2.2.1&&&e8.Right) != 0#64)=true then
      some (.ret false)
     else
      CN.l0 n (x.1,x.2.1,x.2.2.1,x.2.2.2.1,x.2.2.2.2.1,(w64 (x.2.2.2.2.2.1+1)),x.2.2.2.2.2.2)
   else
    CN.l0 n (x.1,x.2.1,x.2.2.1,x.2.2.2.1,x.2.2.2.2.1,(w64 (x.2.2.2.2.2.1+1)),x.2.2.2.2.2.2)
  else
   some (.brk ())
instance CN.l0.le (n:Nat):∀ x,Le (CN.l0 n x) (An.l0 x):=by
 induction n with
 | zero=>intro x;rw[CN.l0];exact Le.none _
 | succ n ih =>
  intro x;rw[CN.l0,An.l0];exact leA
def CN.l1 (n:Nat) (x:Int × List Int × List Int × AC × Int × AF):Option (Lp (Unit) (Bool)) :=
 match n with
 | 0=>none
 | n+1 =>
  if(decide (x.2.2.2.2.1<(x.2.1.length:Int)))=true then
   (AU x.2.1 x.2.2.2.2.1)>>=fun e18 =>
   if(e18 != x.1)=true then
    Eg n (x.2.2.1,e18)>>=fun r21 =>
    if r21=true then
     CN.l1 n (x.1,x.2.1,x.2.2.1,x.2.2.2.1,(w64 (x.2.2.2.2.1+1)),x.2.2.2.2.2)
    else
     (AU x.2.2.2.2.2.Ops e18)>>=fun e24 =>
     if((x.2.2.2.1&&&e24.Left) != 0#64)=true then
      some (.ret false)
     else
      CN.l1 n (x.1,x.2.1,x.2.2.1,x.2.2.2.1,(w64 (x.2.2.2.2.1+1)),x.2.2.2.2.2)
   else
    CN.l1 n (x.1,x.2.1,x.2.2.1,x.2.2.2.1,(w64 (x.2.2.2.2.1+1)),x.2.2.2.2.2)
  else
   some (.brk ())
instance CN.l1.le (n:Nat):∀ x,Le (CN.l1 n x) (An.l1 x):=by
 induction n with
 | zero=>intro x;rw[CN.l1];exact Le.none _
 | succ n ih =>
  intro x;rw[CN.l1,An.l1];exact leA
def CN (n:Nat) (x:AF × Int × Int × List Int × List Int):Option (Bool) :=
 (AU x.1.Ops x.2.2.1)>>=fun e1 =>
 (AU x.1.Ops x.2.1)>>=fun e3 =>
 if((e1.Own&&&e3.Left) != 0#64)=true then
  some false
 else
  if((e1.Own&&&e3.Right) != 0#64)=true then
   some false
  else
   CN.l0 n (x.2.1,x.2.2.1,x.2.2.2.1,x.2.2.2.2,e1.Own,0,x.1)>>=fun o13=>match o13 with
   | .brk s16 =>
    CN.l1 n (x.2.2.1,x.2.2.2.1,x.2.2.2.2,e1.Own,0,x.1)>>=fun o27=>match o27 with
    | .brk s30 =>
     some true
    | .ret r29 =>
     some r29
   | .ret r15 =>
    some r15
instance CN.le (n x):Le (CN n x) (An x):=by unfold CN An;exact leA
def BO.l2 (n:Nat) (x:Int × List Int × List Int × List Int × Int × AF):Option (List Int) :=
 match n with
 | 0=>none
 | n+1 =>
  if(decide (x.2.2.2.2.1<(x.2.2.2.2.2.Ops.length:Int)))=true then
   Eg n (x.2.2.1,x.2.2.2.2.1)>>=fun r26 =>
   if r26=true then
    CN n (x.2.2.2.2.2,x.1,x.2.2.2.2.1,x.2.1,x.2.2.1)>>=fun r29 =>
    if r29=true then
     (room 8 x.2.2.2.1 ([x.2.2.2.2.1]))>>=fun z32 =>
     BO.l2 n (x.1,x.2.1,x.2.2.1,z32,(w64 (x.2.2.2.2.1+1)),x.2.2.2.2.2)
    else
     BO.l2 n (x.1,x.2.1,x.2.2.1,x.2.2.2.1,(w64 (x.2.2.2.2.1+1)),x.2.2.2.2.2)
   else
    BO.l2 n (x.1,x.2.1,x.2.2.1,x.2.2.2.1,(w64 (x.2.2.2.2.1+1)),x.2.2.2.2.2)
  else
   some x.2.2.2.1
instance BO.l2.le (n:Nat):∀ x,Le (BO.l2 n x) (AY.l2 x):=by
 induction n with
 | zero=>intro x;rw[BO.l2];exact Le.none _
 | succ n ih =>
  intro x;rw[BO.l2,AY.l2];exact leA
def BO.l1 (n:Nat) (x:Int × List Int × List Int × AF):Option (List Int) :=
 match n with
 | 0=>none
 | n+1 =>
  BO.l2 n (x.1,x.2.1,x.2.2.1,([]:List Int),0,x.2.2.2)>>=fun o34 =>
  if((o34.length:Int) == (x.2.2.1.length:Int))=true then
   some o34
  else
   BO.l1 n (x.1,x.2.1,o34,x.2.2.2)
instance BO.l1.le (n:Nat):∀ x,Le (BO.l1 n x) (AY.l1 x):=by
 induction n with
 | zero=>intro x;rw[BO.l1];exact Le.none _
 | succ n ih =>
  intro x;rw[BO.l1,AY.l1];exact leA
mutual
def BO.l0 (n:Nat) (x:Int × List Int × List Int × Int × AF):Option (List Int × List Int) :=
 match n with
 | 0=>none
 | n+1 =>
  if(decide (x.2.2.2.1<(x.2.2.2.2.Ops.length:Int)))=true then
   (AU x.2.2.2.2.Ops x.2.2.2.1)>>=fun e7 =>
   if(e7.Home != x.1)=true then
    BO.l0 n (x.1,x.2.1,x.2.2.1,(w64 (x.2.2.2.1+1)),x.2.2.2.2)
   else
    BO n (x.2.2.2.2,x.2.2.2.1)>>=fun r10 =>
    (room 8 x.2.1 ([x.2.2.2.1]))>>=fun z12 =>
    (room 8 z12 r10)>>=fun z14 =>
    (room 8 x.2.2.1 r10)>>=fun z16 =>
    IN n e7>>=fun r18 =>
    if r18=true then
     (room 8 z16 ([x.2.2.2.1]))>>=fun z21 =>
     BO.l0 n (x.1,z14,z21,(w64 (x.2.2.2.1+1)),x.2.2.2.2)
    else
     BO.l0 n (x.1,z14,z16,(w64 (x.2.2.2.1+1)),x.2.2.2.2)
  else
   some (x.2.1,x.2.2.1)
 termination_by structural n
def BO (n:Nat) (x:AF × Int):Option (List Int) :=
 match n with
 | 0=>none
 | n+1 =>
  if(decide (x.2<0))=true then
   some ([]:List Int)
  else
   if(decide (x.2 ≥ (x.1.Ops.length:Int)))=true then
    some ([]:List Int)
   else
    (AU x.1.Ops x.2)>>=fun e3 =>
    if(e3.Kind != 2)=true then
     some ([]:List Int)
    else
     BO.l0 n (x.2,([]:List Int),([]:List Int),0,x.1)>>=fun o23 =>
     BO.l1 n (x.2,o23.1,o23.2,x.1)>>=fun o37 =>
     some o37
 termination_by structural n
end
theorem Tz (n:Nat):(∀ x,Le (BO.l0 n x) (AY.l0 x))∧(∀ x,Le (BO n x) (AY x)):=by
 induction n with
 | zero=>exact⟨fun x=>by rw[BO.l0];exact Le.none _,fun x=>by rw[BO];exact Le.none _⟩
 | succ n ih =>
  obtain⟨i0,i1⟩:=ih
  refine⟨?_,?_⟩
  ·intro x;rw[BO.l0,AY.l0];exact leA
  ·intro x;rw[BO,AY];exact leA
instance BO.le (n x):Le (BO n x) (AY x):=(Tz n).2 x
def EK.l0 (n:Nat) (x:AC × List Int × Int × AF):Option (AC) :=
 match n with
 | 0=>none
 | n+1 =>
  if(decide (x.2.2.1<(x.2.1.length:Int)))=true then
   (AU x.2.1 x.2.2.1)>>=fun e8 =>
   (AU x.2.2.2.Ops e8)>>=fun e10 =>
   EK.l0 n ((x.1&&&~~~e10.Own),x.2.1,(w64 (x.2.2.1+1)),x.2.2.2)
  else
   some x.1
instance EK.l0.le (n:Nat):∀ x,Le (EK.l0 n x) (CB.l0 x):=by
 induction n with
 | zero=>intro x;rw[EK.l0];exact Le.none _
 | succ n ih =>
  intro x;rw[EK.l0,CB.l0];exact leA
def EK (n:Nat) (x:AF × Int):Option (AC) :=
 if(decide (x.2<0))=true then
  some (0#64)
 else
  if(decide (x.2 ≥ (x.1.Ops.length:Int)))=true then
   some (0#64)
  else
   (AU x.1.Ops x.2)>>=fun e3 =>
   BO n (x.1,x.2)>>=fun r5 =>
   EK.l0 n (e3.Own,r5,0,x.1)>>=fun o12 =>
   some o12
instance EK.le (n x):Le (EK n x) (CB x):=by unfold EK CB;exact leA
def Gp (n:Nat) (x:AF × Int × Int):Option (Bool) :=
 match n with
 | 0=>none
 | n+1 =>
  if(decide (x.2.1<0))=true then
   some false
  else
   if(decide (x.2.1 ≥ (x.1.Ops.length:Int)))=true then
    some false
   else
    (AU x.1.Ops x.2.1)>>=fun e3 =>
    if(e3.Home == x.2.2)=true then
     some true
    else
     Gp n (x.1,e3.Home,x.2.2)>>=fun r6 =>
     some r6
instance Gp.le (n:Nat):∀ x,Le (Gp n x) (DK x):=by
 induction n with
 | zero=>intro x;rw[Gp];exact Le.none _
 | succ n ih =>
  intro x;rw[Gp,DK];exact leA
def CI.l1 (n:Nat) (x:Int × AC × AC × Int × AF):Option (AC) :=
 match n with
 | 0=>none
 | n+1 =>
  if(decide (x.2.2.2.1<(x.2.2.2.2.Ops.length:Int)))=true then
   Gp n (x.2.2.2.2,x.2.2.2.1,x.1)>>=fun r2 =>
   if r2=true then
    (AU x.2.2.2.2.Ops x.2.2.2.1)>>=fun e5 =>
    if((e5.Own&&&x.2.1) != 0#64)=true then
     EK n (x.2.2.2.2,x.2.2.2.1)>>=fun r8 =>
     CI.l1 n (x.1,((x.2.1|||r8)|||e5.Left),x.2.2.1,(w64 (x.2.2.2.1+1)),x.2.2.2.2)
    else
     CI.l1 n (x.1,x.2.1,x.2.2.1,(w64 (x.2.2.2.1+1)),x.2.2.2.2)
   else
    CI.l1 n (x.1,x.2.1,x.2.2.1,(w64 (x.2.2.2.1+1)),x.2.2.2.2)
  else
   some x.2.1
instance CI.l1.le (n:Nat):∀ x,Le (CI.l1 n x) (Ak.l1 x):=by
 induction n with
 | zero=>intro x;rw[CI.l1];exact Le.none _
 | succ n ih =>
  intro x;rw[CI.l1,Ak.l1];exact leA
def CI.l0 (n:Nat) (x:Int × AC × AF):Option (AC) :=
 match n with
 | 0=>none
 | n+1 =>
  CI.l1 n (x.1,x.2.1,x.2.1,0,x.2.2)>>=fun o10 =>
  if(o10 == x.2.1)=true then
   some o10
  else
   CI.l0 n (x.1,o10,x.2.2)
instance CI.l0.le (n:Nat):∀ x,Le (CI.l0 n x) (Ak.l0 x):=by
 induction n with
 | zero=>intro x;rw[CI.l0];exact Le.none _
 | succ n ih =>
  intro x;rw[CI.l0,Ak.l0];exact leA
def CI (n:Nat) (x:AF × Int × AC):Option (AC) :=
 CI.l0 n (x.2.1,x.2.2,x.1)>>=fun o13 =>
 some o13
instance CI.le (n x):Le (CI n x) (Ak x):=by unfold CI Ak;exact leA
def Bv.l1 (n:Nat) (x:Int × Int × AF):Option (Lp (Unit) (Int × Int)) :=
 match n with
 | 0=>none
 | n+1 =>
  if(decide (x.2.1<(x.2.2.Ops.length:Int)))=true then
   if(x.1 != x.2.1)=true then
    (AU x.2.2.Ops x.1)>>=fun e4 =>
    (AU x.2.2.Ops x.2.1)>>=fun e6 =>
    if(e4.Home == e6.Home)=true then
     if(e6.Kind == 2)=true then
      IN n e4>>=fun r10 =>
      if r10=true then
       Ek n (e4.Left,e6.Own)>>=fun r13 =>
       if r13=true then
        some (.ret (x.1,x.2.1))
       else
        Bv.l1 n (x.1,(w64 (x.2.1+1)),x.2.2)
      else
       Bv.l1 n (x.1,(w64 (x.2.1+1)),x.2.2)
     else
      Bv.l1 n (x.1,(w64 (x.2.1+1)),x.2.2)
    else
     Bv.l1 n (x.1,(w64 (x.2.1+1)),x.2.2)
   else
    Bv.l1 n (x.1,(w64 (x.2.1+1)),x.2.2)
  else
   some (.brk ())
instance Bv.l1.le (n:Nat):∀ x,Le (Bv.l1 n x) (Ab.l1 x):=by
 induction n with
 | zero=>intro x;rw[Bv.l1];exact Le.none _
 | succ n ih =>
  intro x;rw[Bv.l1,Ab.l1];exact leA
def Bv.l0 (n:Nat) (x:Int × AF):Option (Lp (Unit) (Int × Int)) :=
 match n with
 | 0=>none
 | n+1 =>
  if(decide (x.1<(x.2.Ops.length:Int)))=true then
   Bv.l1 n (x.1,0,x.2)>>=fun o16=>match o16 with
   | .brk s19 =>
    Bv.l0 n ((w64 (x.1+1)),x.2)
   | .ret r18 =>
    some (.ret r18)
  else
   some (.brk ())
instance Bv.l0.le (n:Nat):∀ x,Le (Bv.l0 n x) (Ab.l0 x):=by
 induction n with
 | zero=>intro x;rw[Bv.l0];exact Le.none _
 | succ n ih =>
  intro x;rw[Bv.l0,Ab.l0];exact leA
def Bv (n:Nat) (x:AF):Option (Int × Int) :=
 Bv.l0 n (0,x)>>=fun o20=>match o20 with
 | .brk s23 =>
  some (-1, -1)
 | .ret r22 =>
  some r22
instance Bv.le (n x):Le (Bv n x) (Ab x):=by unfold Bv Ab;exact leA
def JI (n:Nat) (x:AF):Option (AF) :=
 (room 152 ([]:List AQ) x.Joins)>>=fun z1 =>
 (room 64 ([]:List AI) x.Ops)>>=fun z3 =>
 some (⟨z1,z3⟩:AF)
instance JI.le (n x):Le (JI n x) (Ej x):=by unfold JI Ej;exact leA
def EZ.l0 (n:Nat) (x:Int × AF × AF × AF):Option (Lp (AF × AF) (AF)) :=
 match n with
 | 0=>none
 | n+1 =>
  if(decide (x.1≤(w64 ((x.2.1.Ops.length:Int) * (x.2.1.Ops.length:Int)))))=true then
   Bv n x.2.2.2>>=fun r4 =>
   if(decide (r4.1<0))=true then
    some (.ret x.2.2.2)
   else
    (AU x.2.2.2.Ops r4.1)>>=fun e7 =>
    (AU (x.2.2.2.Ops.set (r4.1).toNat (⟨e7.Kind,e7.Conj,e7.Left,e7.Right,e7.Own,r4.2⟩:AI)) r4.2)>>=fun e9 =>
    (AU (x.2.2.2.Ops.set (r4.1).toNat (⟨e7.Kind,e7.Conj,e7.Left,e7.Right,e7.Own,r4.2⟩:AI)) r4.1)>>=fun e11 =>
    EZ.l0 n ((w64 (x.1+1)),x.2.1,x.2.2.1,(⟨x.2.2.2.Joins,((x.2.2.2.Ops.set (r4.1).toNat (⟨e7.Kind,e7.Conj,e7.Left,e7.Right,e7.Own,r4.2⟩:AI)).set (r4.2).toNat (⟨e9.Kind,e9.Conj,e9.Left,e9.Right,(e9.Own|||e11.Own),e9.Home⟩:AI))⟩:AF))
  else
   some (.brk (x.2.2.1,x.2.2.2))
instance EZ.l0.le (n:Nat):∀ x,Le (EZ.l0 n x) (Bg.l0 x):=by
 induction n with
 | zero=>intro x;rw[EZ.l0];exact Le.none _
 | succ n ih =>
  intro x;rw[EZ.l0,Bg.l0];exact leA
def EZ (n:Nat) (x:AF):Option (AF) :=
 JI n x>>=fun r1 =>
 EZ.l0 n (0,x,(⟨[],[]⟩:AF),r1)>>=fun o13=>match o13 with
 | .brk s16 =>
  some s16.2
 | .ret r15 =>
  some r15
instance EZ.le (n x):Le (EZ n x) (Bg x):=by unfold EZ Bg;exact leA
def DP.l0 (n:Nat) (x:List AD × Int × AF):Option (List AD) :=
 match n with
 | 0=>none
 | n+1 =>
  if(decide (x.2.1<(x.2.2.Joins.length:Int)))=true then
   (AU x.2.2.Joins x.2.1)>>=fun e6 =>
   CI n (x.2.2,e6.Home,e6.Left)>>=fun r8 =>
   CI n (x.2.2,e6.Home,e6.Right)>>=fun r10 =>
   (room 56 x.1 ([(⟨1,[e6.Pred],(e6.Left|||e6.Right),r8,r10⟩:AD)]))>>=fun z12 =>
   DP.l0 n (z12,(w64 (x.2.1+1)),x.2.2)
  else
   some x.1
instance DP.l0.le (n:Nat):∀ x,Le (DP.l0 n x) (Ar.l0 x):=by
 induction n with
 | zero=>intro x;rw[DP.l0];exact Le.none _
 | succ n ih =>
  intro x;rw[DP.l0,Ar.l0];exact leA
def DP.l1 (n:Nat) (x:List AD × Int × AF):Option (List AD) :=
 match n with
 | 0=>none
 | n+1 =>
  if(decide (x.2.1<(x.2.2.Ops.length:Int)))=true then
   (AU x.2.2.Ops x.2.1)>>=fun e17 =>
   CI n (x.2.2,e17.Home,e17.Left)>>=fun r19 =>
   EK n (x.2.2,x.2.1)>>=fun r21 =>
   (room 56 x.1 ([(⟨e17.Kind,e17.Conj,(e17.Left|||e17.Right),r19,r21⟩:AD)]))>>=fun z23 =>
   DP.l1 n (z23,(w64 (x.2.1+1)),x.2.2)
  else
   some x.1
instance DP.l1.le (n:Nat):∀ x,Le (DP.l1 n x) (Ar.l1 x):=by
 induction n with
 | zero=>intro x;rw[DP.l1];exact Le.none _
 | succ n ih =>
  intro x;rw[DP.l1,Ar.l1];exact leA
def DP (n:Nat) (x:AA):Option (List AD) :=
 BJ n x>>=fun r1 =>
 EZ n r1>>=fun r3 =>
 DP.l0 n (([]:List AD),0,r3)>>=fun o14 =>
 DP.l1 n (o14,0,r3)>>=fun o25 =>
 some o25
instance DP.le (n x):Le (DP n x) (Ar x):=by unfold DP Ar;exact leA
end
section
def Wu:AB:=⟨2,0,1,⟨1,1,0,⟨false,0⟩⟩,⟨1,2,0,⟨false,0⟩⟩,[]⟩
def Wo:AA:=⟨1,0,[lf 1,lf 2],[Wu],false⟩
def Rr:AA:=⟨2,0,[lf 0,Wo],[HX],false⟩
def esL:List AD:=[⟨1,[Wu],6#64,2#64,4#64⟩,⟨2,[HX],3#64,1#64,6#64⟩]
theorem ABn:Ar Rr=some esL:=(DP.le 200 _).tells (by kernel_rfl)
theorem XQ:Wu.size=1:=by rw[Im];rfl
theorem Ss {k:Int} {es:List AD} {st:Ay} {t:AA} (hl:es.length≤10) (he:∀ e∈es,∃ p,e.Preds=[p]∧p.size=1) (ht:t.size≤1000000) (hall:Ao (AX t)≤5) (h0:AX t≠0#64) :
  Ap (⟨k,es,st⟩,t)=some (match DD es (BL k es st) 5 (AX t) with
   | some x=>(x,CA (BL k es st) x,true)
   | none=>(⟨0,0,[],[],false⟩,0#64,false)):=by
 have ok:JM es:=⟨by omega,fun e h=>by
  obtain⟨p,h1,h2⟩:=he e h
  rw[h1]
  exact⟨by simp,fun q hq=>by rw[List.mem_singleton.1 hq,h2];omega⟩⟩
 have hs:(es.map fun e=>wtC e.Preds).sum≤600:=by
  have:∀ l:List AD,(∀ e∈l,∃ p,e.Preds=[p]∧p.size=1)→(l.map fun e=>wtC e.Preds).sum≤2 * l.length:=by
   intro l
   induction l with
   | nil=>intro _;simp
   | cons e l ih =>
    intro h
    obtain⟨p,h1,h2⟩:=h e (by simp)
    have:=ih fun e' h'=>h e' (by simp[h'])
    rw[List.map_cons,List.sum_cons,h1]
    simp only[wtC,List.map_cons,List.map_nil,List.sum_cons,List.sum_nil,h2,List.length_cons]
    unfold wtC at this
    omega
  have:=this es he
  omega
 have hW:∀ a b,wtC (DF es (Bl es a b))≤600:=fun a b=>Nat.le_trans (AFN es a b) hs
 have hP:∀ a b,(DF es (Bl es a b)).length≤1000000∧∀ p∈DF es (Bl es a b),p.size≤1000000:=fun a b=>by
  obtain⟨g1,g2⟩:=VP (hW a b)
  exact⟨by omega,fun p hp=>by have:=g2 p hp;omega⟩
 have hsp:∀ n s t,Ao s≤5→t∈spF es n s→t.size≤100000:=fun n s t hs hx=>by
  have h4:=AAL hW n s t hx
  have h5:2 * Ao s * (600+1)≤2 * 5 * (600+1):=Nat.mul_le_mul_right _ (by omega)
  omega
 exact RO (m:=(⟨k,es,st⟩:AZ)) ok t ht hall h0 hP hsp
theorem Xc:Wo.size=4:=by
 rw[DX]
 show 1+([Wu].map AB.size).sum+([lf 1,lf 2].map AA.size).sum=4
 simp[XQ,OI]
theorem VJ:Rr.size=7:=by
 rw[DX]
 show 1+([HX].map AB.size).sum+([lf 0,Wo].map AA.size).sum=7
 simp[NK,OI,Xc]
theorem AA4:Ha 1=some ⟨1,[⟨1,[HX],3#64,1#64,2#64⟩],⟨[10#64,20#64],[32768#64]⟩⟩:=Zb 1
theorem ADR:Ap (⟨1,esL,⟨[],[]⟩⟩,Rr)=some (⟨0,0,[],[],false⟩,0#64,false):=by
 rw[Ss (by decide) (by
  intro e h
  rcases List.mem_cons.1 h with rfl | h
  ·exact⟨_,rfl,XQ⟩
  ·rw[List.mem_singleton.1 h];exact⟨_,rfl,NK⟩) (by rw[VJ];decide) (of_decide_eq_true (by kernel_rfl)) (of_decide_eq_true (by kernel_rfl))]
 have:DD esL (BL 1 esL ⟨[],[]⟩) 5 (AX Rr)=none:=by kernel_rfl
 rw[this]
theorem AGv:Ap (⟨1,[⟨1,[HX],3#64,1#64,2#64⟩],⟨[10#64,20#64],[32768#64]⟩⟩,two 1 0 1)=some (two 1 0 1,100#64,true):=by
 rw[Ss (by decide) (by
  intro e h
  rw[List.mem_singleton.1 h];exact⟨_,rfl,NK⟩) (by rw[To];decide) (of_decide_eq_true (by kernel_rfl)) (of_decide_eq_true (by kernel_rfl))]
 have h1:DD [⟨1,[HX],3#64,1#64,2#64⟩] (BL 1 [⟨1,[HX],3#64,1#64,2#64⟩] ⟨[10#64,20#64],[32768#64]⟩) 5 (AX (two 1 0 1))=some (two 1 0 1):=by kernel_rfl
 have h2:CA (BL 1 [⟨1,[HX],3#64,1#64,2#64⟩] ⟨[10#64,20#64],[32768#64]⟩) (two 1 0 1)=100#64:=by kernel_rfl
 rw[h1]
 dsimp only
 rw[h2]
theorem AA3:Dd ()=some true:=by
 unfold Dd
 have e1:Db 1=some (lf 1):=rfl
 have e2:Db 2=some (lf 2):=rfl
 have e3:Fe (1,2)=some Wu:=rfl
 have e4:HR (1,lf 1,lf 2,[Wu])=some Wo:=rfl
 have e5:Db 0=some (lf 0):=rfl
 have e6:Fe (0,1)=some HX:=rfl
 have e7:HR (2,lf 0,Wo,[HX])=some Rr:=rfl
 rw[e1,e2,e3]
 simp -implicitDefEqProofs only[Option.bind_eq_bind,Option.bind_some]
 rw[e4,e5,e6]
 simp -implicitDefEqProofs only[Option.bind_eq_bind,Option.bind_some]
 rw[e7]
 simp -implicitDefEqProofs only[Option.bind_eq_bind,Option.bind_some]
 rw[ABn]
 simp -implicitDefEqProofs only[Option.bind_eq_bind,Option.bind_some]
 rw[ADR,AA4,Qi]
 simp -implicitDefEqProofs only[Option.bind_eq_bind,Option.bind_some]
 rw[AGv]
 simp -implicitDefEqProofs only[Option.bind_eq_bind,Option.bind_some,beq_self_eq_true,if_true]
 rw[Kc _ (by rw[To];decide),PY _ (by rw[Xc];decide),PY _ (by rw[VJ];decide)]
 have i1:isD Wo=true:=by kernel_rfl
 have i2:isD Rr=false:=by kernel_rfl
 rw[i1,i2]
 rfl
theorem VD (q:BY) (m:AZ) (t:AA):Eu (q,m,t)=some true:=AAE AA3 q m t
end
section
open Go.ChangeShapes Go.WideShapes Go.ChangeAt Go.RowKit
theorem AKR (μ:TypeId→Bool) (w:World) (ht:NT gE w):Ac gE (mE μ) w:=by
 constructor <;> first | exact ht | (intros;simp_all [gE,mE])
theorem AQI (b n:Nat):Imm gE b n:=⟨fun l h=>by simp[gE] at h,fun id h=>by simp[gE] at h⟩
theorem Fn.law {P:Program} {f:FuncId} {args:List AV} {vs:Array Value} {w:World} (h:Fn P f args (.bool true)) (ht:NT gE w) (hr:Bk gE w args vs) :
  Calls P f vs w fun e w'=>e=.returned (.bool true)∧Below w.heap.size w w':=by
 have h0:=h (mE fun _=>false)
 refine(callsIn_wide.1 (h0.2.2 gE w vs ⟨fun _ _ _=>rfl,fun _ _ _=>rfl⟩ (AKR _ w ht) hr)).mono ?_
 rintro e w' ⟨v,g',rfl,hs,hm,hv⟩
 rw[hv.atom_inv]
 exact⟨rfl,hs.os,hs.tape,hs.output,hs.size,fun b hb=>hs.same b hb (fun l h=>by simp[mE] at h) (fun l h=>by simp[mE] at h)⟩
theorem Bk.nil {g:Gh} {w:World}:Bk g w [] #[]:=⟨rfl,fun j c v h=>by cases h⟩
theorem Bk.cons {g:Gh} {w:World} {a:AV} {v:Value} {as_:List AV} {vs:List Value} (h:Rep g w a v) (hs:Bk g w as_ vs.toArray):Bk g w (a :: as_) (v :: vs).toArray:=by
 refine⟨by have:=hs.1;simp at this ⊢;omega,fun j c x hc hx=>?_⟩
 cases j with
 | zero=>simp at hc hx;subst hc hx;exact h
 | succ j=>simp at hc hx;exact hs.2 j c x hc (by simpa using hx)
def EM (P:Program) (t:TypeId) (cs:List AV):Option AV :=
 match DY P t with
 | some true=>some (.agg cs)
 | some false=>match cs with
  | [c]=>some c
  | _=>none
 | none=>none
inductive Wt (P:Program):TypeId→List AV→Prop
 | bool (t:TypeId) (b:Bool) (ht:P.underlying t=some .bool):Wt P t [.atom (.bool b)]
 | int (t:TypeId) (k:IntKind) (n:Int) (ht:P.underlying t=some (.int k)) (h:k.min≤n∧n≤k.max):Wt P t [.atom (.int k n)]
 | string (t:TypeId) (s:ByteArray) (ht:P.underlying t=some .string) (h:s.size≤maxLen):Wt P t [.atom (.string s)]
 | slice (t e:TypeId) (es:List AV) (ht:P.underlying t=some (.slice e)) (hl:es.length≤maxLen) (h:∀ x∈es,Wt P e x.cells) (hf:∀ x∈es,EM P e x.cells=some x):Wt P t [.slice .foreign es]
 | struct (t:TypeId) (fs:Array Field) (cs:List AV) (ht:P.underlying t=some (.struct fs)) (hl:cs.length=P.cellsOf t) (h:∀ (i:Nat) (f:Field),fs[i]?=some f→Wt P f.type ((cs.drop f.offset).take (P.cellsOf f.type))):Wt P t cs
 | array (t e:TypeId) (n:Nat) (cs:List AV) (ht:P.underlying t=some (.array n e)) (hl:cs.length=P.cellsOf t) (h:∀ i,i<n→Wt P e ((cs.drop (i * P.cellsOf e)).take (P.cellsOf e))):Wt P t cs
def MB:Nat→List (Nat × Nat)→Option Nat
 | k,[]=>some k
 | k,(o,s) :: l=>if o=k then MB (k+s) l else none
def Zi (P:Program) (S:List TypeId):Bool:=S.all fun t=>match P.underlying t with
 | some .bool | some (.int _) | some .string=>P.cellsOf t == 1
 | some (.slice e)=>S.contains e&&decide (0<P.cellsOf e)&&P.cellsOf t == 1
 | some (.struct fs)=>(fs.all fun f=>S.contains f.type)&&MB 0 (fs.toList.map fun f=>(f.offset,P.cellsOf f.type)) == some (P.cellsOf t)
 | some (.array n e)=>S.contains e&&MB 0 ((List.range n).map fun i=>(i * P.cellsOf e,P.cellsOf e)) == some (P.cellsOf t)
 | _=>false
section
variable {H:Type} {enc:TypeId × Value→H} {P:Program} {W:World} {base b0:Nat} {spare:Nat→Bool} {held:Bool} {r:Reach}
theorem cells?_get {w:World} {a:Addr} {n:Nat} {cs:List Value} (h:w.cells? base a n=some cs):cs.length=n∧∀ (j:Nat) (v:Value),cs[j]?=some v→w.cell? (a.add j)=some v:=by
 unfold World.cells? at h
 split at h
 ·have h1:=mapM_some_length h
  refine⟨by simpa using h1,fun j v hj=>?_⟩
  have hlt:j<n:=by rw[← List.length_range (n:=n),← h1];exact(List.getElem?_eq_some_iff.1 hj).1
  rw[mapM_some_get h j j (by simp[hlt])];exact hj
 ·cases h
def LF (w:World) (as_:List AV) (cs:List Value):Prop:=as_.length=cs.length∧(∀ c∈as_,c.one=true)∧∀ (j:Nat) (a:AV) (v:Value),as_[j]?=some a→cs[j]?=some v→Rep gE w a v
theorem AGW:∀ {l:List (Nat × Nat)} {k n:Nat},MB k l=some n→k≤n:=by
 intro l
 induction l with
 | nil=>intro k n h;simp[MB] at h;omega
 | cons x l ih =>
  intro k n h
  obtain⟨o,s⟩:=x
  simp only[MB] at h
  split at h
  ·have:=ih h;omega
  ·cases h
theorem AKJ {w:World} {cs:List Value} {n:Nat} (hn:cs.length=n):∀ (l:List (Nat × Nat)) (k:Nat) (Q:Nat→List AV→Prop),MB k l=some n→(∀ (i o s:Nat),l[i]?=some (o,s)→∃ as_,LF w as_ ((cs.drop o).take s)∧Q i as_) →
  ∃ as_,LF w as_ (cs.drop k)∧∀ (i o s:Nat),l[i]?=some (o,s)→k≤o∧Q i ((as_.drop (o - k)).take s):=by
 intro l
 induction l with
 | nil =>
  intro k Q h _
  simp[MB] at h
  subst h
  exact⟨[],⟨by simp;omega,by simp,fun j a v h=>by simp at h⟩,fun i o s h=>by simp at h⟩
 | cons x l ih =>
  intro k Q h hp
  obtain⟨o,s⟩:=x
  simp only[MB] at h
  split at h
  ·rename_i hok
   subst hok
   have hle:=AGW h
   obtain⟨as0,⟨h1,h2,h3⟩,hq⟩:=hp 0 o s rfl
   obtain⟨as1,⟨h4,h5,h6⟩,hq1⟩:=ih (o+s) (fun i=>Q (i+1)) h (fun i o' s' hi=>hp (i+1) o' s' (by simpa using hi))
   have hl0:as0.length=s:=by rw[h1];simp;omega
   refine⟨as0++as1,⟨by simp[hl0,h4];omega,fun c hc=>(List.mem_append.1 hc).elim (h2 c) (h5 c),fun j a v ha hv=>?_⟩,fun i o' s' hi=>?_⟩
   ·rw[List.getElem?_drop] at hv
    by_cases hj:j<s
    ·rw[List.getElem?_append_left (by omega)] at ha
     exact h3 j a v ha (by rw[List.getElem?_take_of_lt hj,List.getElem?_drop];exact hv)
    ·rw[List.getElem?_append_right (by omega),hl0] at ha
     exact h6 (j - s) a v ha (by rw[List.getElem?_drop,← hv];congr 1;omega)
   ·cases i with
    | zero =>
     simp at hi
     obtain⟨rfl,rfl⟩:=hi
     refine⟨Nat.le_refl _,?_⟩
     rw[Nat.sub_self,List.drop_zero,List.take_append_of_le_length (by omega),List.take_of_length_le (by omega)]
     exact hq
    | succ i =>
     obtain⟨h7,h8⟩:=hq1 i o' s' (by simpa using hi)
     refine⟨by omega,?_⟩
     have:o' - o=s+(o' - (o+s)):=by omega
     have hd:List.drop (s+(o' - (o+s))) as0=[]:=List.drop_eq_nil_of_le (by omega)
     rw[this,List.drop_append,hd,hl0,List.nil_append,show s+(o' - (o+s)) - s=o' - (o+s) from by omega]
     exact h8
  ·cases h
theorem Xy {t:TypeId} {cs:List AV} {x:AV} (h:EM P t cs=some x) (ho:∀ c∈cs,c.one=true):x.cells=cs:=by
 unfold EM at h
 split at h
 ·injection h with h;subst h;rfl
 ·split at h
  ·injection h with h;subst h
   rename_i c
   have:=ho c (by simp)
   cases c <;> first | rfl | (simp[AV.one] at this)
  ·cases h
 ·cases h
theorem ANK {S:List TypeId} (hS:Zi P S=true):∀ (fuel:Nat) (t:TypeId) (cs:List Value) (x:DataW H × List MemPlace),t∈S→DataW.trod enc P W base spare held fuel t cs=some x→∃ as_,LF W as_ cs∧Wt P t as_∧cs.length=P.cellsOf t:=by
 intro fuel
 induction fuel with
 | zero=>intro t cs x _ h;simp[DataW.trod] at h
 | succ fuel ih =>
  intro t cs x ht h
  have hp:=List.all_eq_true.1 hS t ht
  have one1:∀ (a:AV) (v:Value),a.one=true→Rep gE W a v→LF W [a] [v]:=fun a v ho hr=>⟨rfl,by simpa using ho,fun j a' v' h1 h2=>by
   cases j with
   | zero=>simp at h1 h2;subst h1 h2;exact hr
   | succ j=>simp at h1⟩
  split at hp
  ·rename_i hu
   obtain⟨b,rfl,_⟩:=DataW.trod_bool hu h
   exact⟨_,one1 _ _ rfl (.atom (.bool b) rfl),.bool t b hu,by simp at hp ⊢;exact hp.symm⟩
  ·rename_i k hu
   obtain⟨n,rfl,_,hw⟩:=DataW.trod_int hu h
   exact⟨_,one1 _ _ rfl (.atom (.int k n) rfl),.int t k n hu (by simpa [Lit.wf] using hw),by simp at hp ⊢;exact hp.symm⟩
  ·rename_i hu
   obtain⟨s,rfl,_,hw⟩:=DataW.trod_string hu h
   exact⟨_,one1 _ _ rfl (.atom (.string s) rfl),.string t s hu hw,by simp at hp ⊢;exact hp.symm⟩
  ·rename_i e hu
   simp only[Bool.and_eq_true,decide_eq_true_eq,List.contains_iff_mem,beq_iff_eq] at hp
   obtain⟨⟨he,hz⟩,hct⟩:=hp
   rcases DataW.trod_slice hu h with⟨rfl,_⟩|⟨a,len,cap,elems,rest,n,hn,rfl,_,hb,hl,hm,hlen,hel,_,_⟩
   ·exact⟨_,one1 _ _ rfl (.nil .foreign none 0 (fun id h=>by cases h) (fun h=>by cases h)),.slice t e [] hu (by simp) (by simp) (by simp),by simp[hct]⟩
   ·obtain rfl:fuel=n:=by omega
    -- the elements
    have each:∀ i,i<len→∃ (cs:List Value) (as_:List AV),W.cells? base (a.add (i * P.cellsOf e)) (P.cellsOf e)=some cs∧LF W as_ cs∧Wt P e as_∧cs.length=P.cellsOf e:=by
     intro i hi
     have h1:=hel i hi
     obtain⟨y,hy⟩:∃ y,elems[i]?=some y:=⟨_,List.getElem?_eq_getElem (by omega)⟩
     rw[hy,Option.bind_eq_some_iff] at h1
     obtain⟨cs,h2,h3⟩:=h1
     obtain⟨as_,h4,h5,h6⟩:=ih e cs y he h3
     exact⟨cs,as_,h2,h4,h5,h6⟩
    have fm:∀ cs,Wt P e cs→∃ x,EM P e cs=some x:=by
     intro cs hw
     unfold EM DY
     cases hw with
     | bool t b ht=>rw[ht];exact⟨_,rfl⟩
     | int t k n ht _=>rw[ht];exact⟨_,rfl⟩
     | string t s ht _=>rw[ht];exact⟨_,rfl⟩
     | slice t e es ht _ _ _=>rw[ht];exact⟨_,rfl⟩
     | struct t fs cs ht _ _=>rw[ht];exact⟨_,rfl⟩
     | array t e n cs ht _ _=>rw[ht];exact⟨_,rfl⟩
    have each2:∀ i,∃ x:AV,i<len→∃ cs,W.cells? base (a.add (i * P.cellsOf e)) (P.cellsOf e)=some cs∧LF W x.cells cs∧Wt P e x.cells∧EM P e x.cells=some x∧x.cells.length=P.cellsOf e:=by
     intro i
     by_cases hi:i<len
     ·obtain⟨cs,as_,h1,h2,h3,h4⟩:=each i hi
      obtain⟨x,hx⟩:=fm as_ h3
      have hxc:=Xy hx h2.2.1
      exact⟨x,fun _=>⟨cs,h1,by rw[hxc];exact h2,by rw[hxc];exact h3,by rw[hxc];exact hx,by rw[hxc,h2.1,h4]⟩⟩
     ·exact⟨.undef,fun h=>absurd h hi⟩
    obtain⟨el,hel2⟩:=Classical.axiomOfChoice each2
    have hes:∀ (i:Nat) (x:AV),((List.range len).map el)[i]?=some x→i<len∧x=el i:=by
     intro i x hx
     rw[List.getElem?_map] at hx
     cases hr:(List.range len)[i]? with
     | none=>rw[hr] at hx;cases hx
     | some j =>
      rw[hr] at hx;injection hx with hx
      obtain⟨h1,h2⟩:=List.getElem?_eq_some_iff.1 hr
      simp at h1 h2;subst h2;exact⟨h1,hx.symm⟩
    have hmem:∀ x∈(List.range len).map el,∃ i,i<len∧x=el i:=by
     intro x hx
     obtain⟨i,hi,rfl⟩:=List.mem_map.1 hx
     exact⟨i,by simpa using hi,rfl⟩
    refine⟨[.slice .foreign ((List.range len).map el)],one1 _ _ rfl ?_,.slice t e _ hu (by simp;omega) (fun x hx=>?_) (fun x hx=>?_),by simp[hct]⟩
    ·by_cases h0:len=0
     ·subst h0;exact .nil .foreign _ _ (fun id h=>by cases h) (fun h=>by cases h)
     ·have hspot:a.spot=none:=by
       obtain⟨cs,h1,h2,_,_,h3⟩:=hel2 0 (by omega)
       have hcl:0<cs.length:=by rw[← h2.1,h3];exact hz
       have h4:=(cells?_get h1).2 0 _ (List.getElem?_eq_getElem hcl)
       unfold World.cell? at h4
       split at h4
       ·split at h4
        ·cases h4
        ·rename_i hs
         obtain⟨b,o,sp⟩:=a
         cases sp with
         | none=>rfl
         | some s=>simp[Addr.add] at hs
       ·cases h4
      obtain⟨b,o,sp⟩:=a
      dsimp only at hspot
      subst hspot
      have hlm:((List.range len).map el).length=len:=by simp
      have key:Rep gE W (.slice .foreign ((List.range len).map el)) (.slice (some ⟨b,o,none⟩) ((List.range len).map el).length cap):=by
       refine Rep.slice_mk hz (fun x hx=>?_) (fun _=>AQI _ _) (fun i x hx=>?_) (by rw[hlm];exact hl) trivial
       ·obtain⟨i,hi,rfl⟩:=hmem x hx
        obtain⟨cs,_,_,_,_,h3⟩:=hel2 i hi
        exact h3
       ·obtain⟨hi,rfl⟩:=hes i x hx
        obtain⟨cs,h1,h2,_,_,h3⟩:=hel2 i hi
        refine⟨h2.2.1,fun j c hj=>?_⟩
        have hlt:j<cs.length:=by rw[← h2.1];exact(List.getElem?_eq_some_iff.1 hj).1
        have h4:=(cells?_get h1).2 j _ (List.getElem?_eq_getElem hlt)
        rw[Dl,Dl] at h4
        exact⟨_,h4,h2.2.2 j c _ hj (List.getElem?_eq_getElem hlt)⟩
      rw[hlm] at key
      exact key
    ·obtain⟨i,hi,rfl⟩:=hmem x hx
     obtain⟨cs,_,_,h3,_,_⟩:=hel2 i hi
     exact h3
    ·obtain⟨i,hi,rfl⟩:=hmem x hx
     obtain⟨cs,_,_,_,h3,_⟩:=hel2 i hi
     exact h3
  ·rename_i fs hu
   simp only[Bool.and_eq_true,beq_iff_eq] at hp
   obtain⟨hp1,hp2⟩:=hp
   obtain⟨xs,n,hn,_,hl,hxl,hf⟩:=DataW.trod_struct hu h
   obtain rfl:fuel=n:=by omega
   obtain⟨as_,h1,h2⟩:=AKJ (w:=W) hl _ 0 (fun i as_=>∀ f,fs[i]?=some f→Wt P f.type as_) hp2 (fun i o s hi=>by
    rw[List.getElem?_map] at hi
    cases hfi:fs.toList[i]? with
    | none=>rw[hfi] at hi;cases hi
    | some f =>
     rw[hfi] at hi;injection hi with hi;injection hi with e1 e2;subst e1 e2
     have hfi':fs[i]?=some f:=by simpa using hfi
     have h3:=hf i f hfi'
     obtain⟨y,hy⟩:∃ y,xs[i]?=some y:=⟨_,List.getElem?_eq_getElem (by rw[hxl];exact(Array.getElem?_eq_some_iff.1 hfi').1)⟩
     rw[hy] at h3
     have hmem:f.type∈S:=by
      rw[← Array.all_toList] at hp1
      simpa using List.all_eq_true.1 hp1 f (List.mem_of_getElem? hfi)
     obtain⟨as_,h4,h5,h6⟩:=ih _ _ _ hmem h3
     exact⟨as_,h4,fun f' hf'=>by rw[hfi'] at hf';injection hf' with hf';subst hf';exact h5⟩)
   refine⟨as_,by simpa using h1,.struct t fs as_ hu (by rw[h1.1];simpa using hl) (fun i f hfi=>?_),hl⟩
   have:=(h2 i f.offset (P.cellsOf f.type) (by simp[hfi])).2 f hfi
   simpa using this
  ·rename_i m e hu
   simp only[Bool.and_eq_true,beq_iff_eq,List.contains_iff_mem] at hp
   obtain⟨hp1,hp2⟩:=hp
   obtain⟨xs,n,hn,_,hl,hxl,hf⟩:=DataW.trod_array hu h
   obtain rfl:fuel=n:=by omega
   obtain⟨as_,h1,h2⟩:=AKJ (w:=W) hl _ 0 (fun i as_=>Wt P e as_) hp2 (fun i o s hi=>by
    rw[List.getElem?_map] at hi
    cases hfi:(List.range m)[i]? with
    | none=>rw[hfi] at hi;cases hi
    | some j =>
     rw[hfi] at hi;injection hi with hi;injection hi with e1 e2;subst e1 e2
     obtain⟨q1,q2⟩:=List.getElem?_eq_some_iff.1 hfi
     simp at q1 q2;subst q2
     have h3:=hf i q1
     obtain⟨y,hy⟩:∃ y,xs[i]?=some y:=⟨_,List.getElem?_eq_getElem (by omega)⟩
     rw[hy] at h3
     obtain⟨as_,h4,h5,h6⟩:=ih _ _ _ hp1 h3
     exact⟨as_,h4,h5⟩)
   refine⟨as_,by simpa using h1,.array t e m as_ hu (by rw[h1.1];simpa using hl) (fun i hi=>?_),hl⟩
   have:=(h2 i (i * P.cellsOf e) (P.cellsOf e) (by simp[hi])).2
   simpa using this
  ·cases hp
theorem Nl {S:List TypeId} (hS:Zi P S=true) {t:TypeId} {v:Value} {d:DataW H} {ps:List MemPlace} (ht:t∈S) (hval:Value.okWide P W r b0 t v) (hd:DataW.Trod enc P W base spare held t v d ps):∃ a as_,Rep gE W a v∧Wt P t as_∧EM P t as_=some a:=by
 obtain⟨fuel,hf⟩:=hd
 obtain⟨as_,⟨h1,h2,h3⟩,h4,h5⟩:=ANK hS fuel t _ _ ht hf
 have single:(∀ cs,v≠.agg cs)→(∀ cs,v≠.tuple cs)→v.cells = #[v]:=by
  intro ha hb
  cases v <;> first | rfl | (exact absurd rfl (ha _)) | (exact absurd rfl (hb _))
 have hp:=List.all_eq_true.1 hS t ht
 unfold Value.okWide at hval
 cases hu:P.underlying t with
 | none=>rw[hu] at hp;cases hp
 | some dsc =>
  have agg:(∃ cs,v=.agg cs∧cs.size=P.cellsOf t∧Row.okWide P W r b0 t cs)→DY P t=some true→∃ a as_,Rep gE W a v∧Wt P t as_∧EM P t as_=some a:=by
   rintro⟨cs,rfl,hsz,_⟩ hag
   refine⟨.agg as_,as_,.agg as_ cs (by rw[h1];simp[Value.cells]) h2 (fun j c u hj hu=>h3 j c u hj (by simpa [Value.cells] using hu)),h4,?_⟩
   unfold EM
   rw[hag]
  have one1:DY P t=some false→P.cellsOf t=1→(∃ u,v.cells = #[u]∧u=v)→∃ a as_,Rep gE W a v∧Wt P t as_∧EM P t as_=some a:=by
   rintro hag hct ⟨u,hu,rfl⟩
   have hl:as_.length=1:=by rw[h1,hu];rfl
   obtain⟨a,rfl⟩:∃ a,as_=[a]:=by
    match as_,hl with
    | [a],_=>exact⟨a,rfl⟩
   refine⟨a,[a],h3 0 a u rfl (by rw[hu];rfl),h4,?_⟩
   unfold EM
   rw[hag]
  have scal:DY P t=some false→Cell.okWide P W r b0 t v→P.cellsOf t=1→∃ a as_,Rep gE W a v∧Wt P t as_∧EM P t as_=some a:=by
   intro hag hc hct
   have no:∀ cs,v≠.agg cs∧v≠.tuple cs:=by
    intro cs
    refine⟨fun e=>?_,fun e=>?_⟩ <;>
    ·subst e
     simp only[Cell.okWide,Cell.ok,hu] at hc
   exact one1 hag hct ⟨v,single (fun cs=>(no cs).1) (fun cs=>(no cs).2),rfl⟩
  rw[hu] at hval hp
  have hs:∀ b,(match dsc with | .struct _=>true | .array _ _=>true | _=>false)=b→DY P t=some b:=by
   intro b hb
   unfold DY
   simp only[hu]
   cases dsc <;> simp_all
  cases dsc <;> first | (cases hp;done) | (exact agg hval (hs _ rfl)) | skip
  ·exact scal (hs _ rfl) hval (by simpa using hp)
  ·exact scal (hs _ rfl) hval (by simpa using hp)
  ·exact scal (hs _ rfl) hval (by simpa using hp)
  ·simp only[Bool.and_eq_true,beq_iff_eq] at hp;exact scal (hs _ rfl) hval hp.2
end
end
section
def GP (P:Program) (t:TypeId):Option (List (TypeId × Nat × Nat)):=match P.underlying t with
 | some (.struct fs)=>some (fs.toList.map fun f=>(f.type,f.offset,P.cellsOf f.type))
 | _=>none
theorem Wt.int_inv {P:Program} {t:TypeId} {k:IntKind} {cs:List AV} (ht:P.underlying t=some (.int k)) (h:Wt P t cs):∃ n,cs=[.atom (.int k n)]∧k.min≤n∧n≤k.max:=by
 cases h <;> rename_i h1 <;> simp_all
theorem Wt.bool_inv {P:Program} {t:TypeId} {cs:List AV} (ht:P.underlying t=some .bool) (h:Wt P t cs):∃ b,cs=[.bool b]:=by
 cases h <;> rename_i h1 <;> simp_all
theorem Wt.slice_inv {P:Program} {t e:TypeId} {cs:List AV} (ht:P.underlying t=some (.slice e)) (h:Wt P t cs):∃ es,cs=[.slice .foreign es]∧es.length≤maxLen∧(∀ x∈es,Wt P e x.cells)∧∀ x∈es,EM P e x.cells=some x:=by
 cases h <;> rename_i h1 <;> simp_all
theorem Wt.struct_inv {P:Program} {t:TypeId} {cs:List AV} {l:List (TypeId × Nat × Nat)} (ht:GP P t=some l) (h:Wt P t cs):cs.length=P.cellsOf t∧∀ (i:Nat) (ty off sz:Nat),l[i]?=some (ty,off,sz)→Wt P ty ((cs.drop off).take sz):=by
 unfold GP at ht
 split at ht
 ·rename_i fs hu
  injection ht with ht;subst ht
  cases h <;> rename_i h1 <;> simp_all
  rename_i h2
  intro i ty off sz x hx e1 e2 e3
  subst e1 e2 e3
  exact h2 i x hx
 ·cases ht
theorem CS {α:Type} {cs:List α} {n:Nat} (h:cs.length=n+1):∃ c tl,cs=c :: tl∧tl.length=n:=by
 cases cs with
 | nil=>simp at h
 | cons c tl=>exact⟨c,tl,rfl,by simpa using h⟩
theorem Wt.i64 {P:Program} {t:TypeId} {c:AV} (ht:P.underlying t=some (.int .i64)) (h:Wt P t [c]):∃ n,c=.i64 n:=by
 obtain⟨n,hn,_⟩:=h.int_inv ht
 injection hn with hn;exact⟨n,hn⟩
theorem Wt.b {P:Program} {t:TypeId} {c:AV} (ht:P.underlying t=some .bool) (h:Wt P t [c]):∃ n,c=.bool n:=by
 obtain⟨n,hn⟩:=h.bool_inv ht
 injection hn with hn;exact⟨n,hn⟩
theorem QL {P:Program} {e:TypeId} {α:Type} {f:α→AV} {G:α→Prop} (hagg:∀ x,EM P e (f x).cells=some (f x)) {es:List AV} (h2:∀ x∈es,∃ y,x.cells=(f y).cells∧G y) (h3:∀ x∈es,EM P e x.cells=some x):∃ l:List α,es=l.map f∧∀ x∈l,G x:=by
 induction es with
 | nil=>exact⟨[],rfl,by simp⟩
 | cons e es ih =>
  obtain⟨l,rfl,hl⟩:=ih (fun x hx=>h2 x (List.mem_cons_of_mem _ hx)) fun x hx=>h3 x (List.mem_cons_of_mem _ hx)
  obtain⟨x,hx,gx⟩:=h2 e (by simp)
  have:=h3 e (by simp)
  rw[hx,hagg] at this
  injection this with this
  exact⟨x :: l,by rw[← this];rfl,fun y hy=>(List.mem_cons.1 hy).elim (fun h=>h ▸ gx) (hl y)⟩
theorem Pb {P:Program} {t:TypeId} {fs:Array Field} {l:List (TypeId × Nat × Nat)} {i ty off sz:Nat} (ht:GP P t=some l) (hu:P.underlying t=some (.struct fs)) (hi:l[i]?=some (ty,off,sz)):∃ f,fs[i]?=some f∧f.type=ty∧f.offset=off∧P.cellsOf f.type=sz:=by
 unfold GP at ht
 rw[hu] at ht
 injection ht with ht;subst ht
 simp at hi
 obtain⟨f,hf,h1,h2,h3⟩:=hi
 exact⟨f,hf,h1,h2,h3⟩
theorem XT {P:Program} {t:TypeId} {l:List (TypeId × Nat × Nat)} (ht:GP P t=some l):∃ fs,P.underlying t=some (.struct fs):=by
 unfold GP at ht
 split at ht
 ·exact⟨_,by assumption⟩
 ·cases ht
theorem AEZ {n:Int} (h1:IntKind.u64.min≤n) (h2:n≤IntKind.u64.max):AV.u64 n=.w (BitVec.ofNat 64 n.toNat):=by
 have e1:IntKind.u64.min=0:=by decide
 have e2:IntKind.u64.max=18446744073709551615:=by decide
 rw[e1] at h1;rw[e2] at h2
 simp only[AV.w,BitVec.toNat_ofNat]
 congr 2;omega
theorem Wt.w {P:Program} {t:TypeId} {c:AV} (ht:P.underlying t=some (.int .u64)) (h:Wt P t [c]):∃ s,c=.w s:=by
 obtain⟨n,hn,h1,h2⟩:=h.int_inv ht
 injection hn with hn;subst hn
 exact⟨_,AEZ h1 h2⟩
theorem Qa {P:Program} {t:TypeId} {cs:List AV} {a:AV} (h1:DY P t=some true) (h2:EM P t cs=some a):a=.agg cs:=by
 unfold EM at h2
 rw[h1] at h2
 injection h2 with h2;exact h2.symm
theorem VH {P:Program} {t:TypeId} {cs:List AV} (h:DY P t=some true):EM P t (AV.agg cs).cells=some (.agg cs):=by
 unfold EM
 rw[h];rfl
theorem AES {P:Program} {t:TypeId} {a:AV} (h:DY P t=some false) (hc:a.cells=[a]):EM P t a.cells=some a:=by
 unfold EM
 rw[h,hc]
end
section
theorem AMI {cs:List AV} (h:Wt Tryz.prog 22 cs):∃ l:List Int,cs=[.slice .foreign (l.map AV.i64)]∧l.length<9223372036854775808:=by
 obtain⟨es,hn,h1,h2,h3⟩:=h.slice_inv (show Tryz.prog.underlying 22=some (.slice 3) by kernel_rfl)
 subst hn
 have hd:∀ cs,Wt Tryz.prog 3 cs→∃ y,cs=(AV.i64 y).cells∧True:=fun cs hc=>let ⟨x,hx,_⟩:=hc.int_inv (show Tryz.prog.underlying 3=some (.int .i64) by kernel_rfl);⟨x,hx,trivial⟩
 obtain⟨l,rfl,_⟩:=QL (P:=Tryz.prog) (f:=AV.i64) (G:=fun _=>True) (fun x=>AES (by kernel_rfl) rfl) (fun x hx=>hd _ (h2 x hx)) h3
 exact⟨l,rfl,by simp[maxLen] at h1;omega⟩
theorem Vy:GP Tryz.prog 63=some [(4,0,1),(2,1,1)]:=by kernel_rfl
theorem WL {cs:List AV} (h:Wt Tryz.prog 63 cs):∃ x:BT,cs=x.C:=by
 obtain⟨hl,hf⟩:=h.struct_inv Vy
 rw[show Tryz.prog.cellsOf 63=2 by kernel_rfl] at hl
 obtain⟨c0,d0,rfl,hn0⟩:=CS hl
 obtain⟨c1,d1,rfl,hn1⟩:=CS hn0
 obtain rfl:=List.length_eq_zero_iff.1 hn1
 obtain⟨v0,rfl⟩:=Wt.b (show Tryz.prog.underlying 4=some (.bool) by kernel_rfl) (show Wt Tryz.prog 4 [c0] from hf 0 _ _ _ rfl)
 obtain⟨v1,rfl⟩:=Wt.i64 (show Tryz.prog.underlying 2=some (.int .i64) by kernel_rfl) (show Wt Tryz.prog 2 [c1] from hf 1 _ _ _ rfl)
 exact⟨⟨v0,v1⟩,rfl⟩
theorem YV:GP Tryz.prog 65=some [(3,0,1),(3,1,1),(3,2,1),(63,3,2)]:=by kernel_rfl
theorem Pi {cs:List AV} (h:Wt Tryz.prog 65 cs):∃ x:BF,cs=x.C:=by
 obtain⟨hl,hf⟩:=h.struct_inv YV
 rw[show Tryz.prog.cellsOf 65=5 by kernel_rfl] at hl
 obtain⟨c0,d0,rfl,hn0⟩:=CS hl
 obtain⟨c1,d1,rfl,hn1⟩:=CS hn0
 obtain⟨c2,d2,rfl,hn2⟩:=CS hn1
 obtain⟨c3,d3,rfl,hn3⟩:=CS hn2
 obtain⟨c4,d4,rfl,hn4⟩:=CS hn3
 obtain rfl:=List.length_eq_zero_iff.1 hn4
 obtain⟨v0,rfl⟩:=Wt.i64 (show Tryz.prog.underlying 3=some (.int .i64) by kernel_rfl) (show Wt Tryz.prog 3 [c0] from hf 0 _ _ _ rfl)
 obtain⟨v1,rfl⟩:=Wt.i64 (show Tryz.prog.underlying 3=some (.int .i64) by kernel_rfl) (show Wt Tryz.prog 3 [c1] from hf 1 _ _ _ rfl)
 obtain⟨v2,rfl⟩:=Wt.i64 (show Tryz.prog.underlying 3=some (.int .i64) by kernel_rfl) (show Wt Tryz.prog 3 [c2] from hf 2 _ _ _ rfl)
 obtain⟨v3,hv3⟩:=WL (show Wt Tryz.prog 63 [c3,c4] from hf 3 _ _ _ rfl);simp only[BT.C,List.cons.injEq,and_true] at hv3;obtain⟨rfl,rfl⟩:=hv3
 exact⟨⟨v0,v1,v2,v3⟩,rfl⟩
theorem Lv:GP Tryz.prog 67=some [(3,0,1),(3,1,1),(3,2,1),(65,3,5),(65,8,5),(24,13,1)]:=by kernel_rfl
theorem Vn {t:TypeId} {cs:List AV} (h:Wt Tryz.prog t cs):(t=67→∃ x:AB,cs=x.C)∧(t=24→∃ xs:List AB,cs=[.slice .foreign (xs.map AB.av)]∧xs.length<9223372036854775808):=by
 obtain⟨fs,hfs⟩:=XT Lv
 have hs24:Tryz.prog.underlying 24=some (.slice 67):=by kernel_rfl
 induction h with
 | bool t b ht=>exact⟨fun h=>by(subst h;rw[hfs] at ht;cases ht),fun h=>by(subst h;rw[hs24] at ht;cases ht)⟩
 | int t b n ht=>exact⟨fun h=>by(subst h;rw[hfs] at ht;cases ht),fun h=>by(subst h;rw[hs24] at ht;cases ht)⟩
 | string t b ht=>exact⟨fun h=>by(subst h;rw[hfs] at ht;cases ht),fun h=>by(subst h;rw[hs24] at ht;cases ht)⟩
 | array t b n cs ht=>exact⟨fun h=>by(subst h;rw[hfs] at ht;cases ht),fun h=>by(subst h;rw[hs24] at ht;cases ht)⟩
 | slice t e es ht hl h hf ih =>
  refine⟨fun h=>by(subst h;rw[hfs] at ht;cases ht),fun h=>?_⟩
  ·subst h
   rw[hs24] at ht
   injection ht with ht;injection ht with ht;subst ht
   obtain⟨l,rfl,_⟩:=QL (P:=Tryz.prog) (f:=AB.av) (G:=fun _=>True) (fun x=>by rw[AB.av_eq];exact VH (by kernel_rfl)) (fun x hx=>let ⟨y,hy⟩:=(ih x hx).1 rfl;⟨y,by rw[hy,AB.av_eq];rfl,trivial⟩) hf
   exact⟨l,rfl,by simp[maxLen] at hl;omega⟩
 | struct t fs' cs ht hl h ih =>
  refine⟨fun e=>?_,fun h=>by(subst h;rw[hs24] at ht;cases ht)⟩
  subst e
  obtain⟨_,hf⟩:=(Wt.struct _ _ _ ht hl h).struct_inv Lv
  obtain⟨f5,g1,g2,g3,g4⟩:=Pb (i:=5) Lv ht rfl
  have hr5:=(ih 5 f5 g1).2 g2
  rw[g3,g4] at hr5
  clear g1 g2 g3 g4
  clear ih h
  rw[show Tryz.prog.cellsOf 67=14 by kernel_rfl] at hl
  obtain⟨c0,d0,rfl,hn0⟩:=CS hl
  obtain⟨c1,d1,rfl,hn1⟩:=CS hn0
  obtain⟨c2,d2,rfl,hn2⟩:=CS hn1
  obtain⟨c3,d3,rfl,hn3⟩:=CS hn2
  obtain⟨c4,d4,rfl,hn4⟩:=CS hn3
  obtain⟨c5,d5,rfl,hn5⟩:=CS hn4
  obtain⟨c6,d6,rfl,hn6⟩:=CS hn5
  obtain⟨c7,d7,rfl,hn7⟩:=CS hn6
  obtain⟨c8,d8,rfl,hn8⟩:=CS hn7
  obtain⟨c9,d9,rfl,hn9⟩:=CS hn8
  obtain⟨c10,d10,rfl,hn10⟩:=CS hn9
  obtain⟨c11,d11,rfl,hn11⟩:=CS hn10
  obtain⟨c12,d12,rfl,hn12⟩:=CS hn11
  obtain⟨c13,d13,rfl,hn13⟩:=CS hn12
  obtain rfl:=List.length_eq_zero_iff.1 hn13
  obtain⟨v0,rfl⟩:=Wt.i64 (show Tryz.prog.underlying 3=some (.int .i64) by kernel_rfl) (show Wt Tryz.prog 3 [c0] from hf 0 _ _ _ rfl)
  obtain⟨v1,rfl⟩:=Wt.i64 (show Tryz.prog.underlying 3=some (.int .i64) by kernel_rfl) (show Wt Tryz.prog 3 [c1] from hf 1 _ _ _ rfl)
  obtain⟨v2,rfl⟩:=Wt.i64 (show Tryz.prog.underlying 3=some (.int .i64) by kernel_rfl) (show Wt Tryz.prog 3 [c2] from hf 2 _ _ _ rfl)
  obtain⟨v3,hv3⟩:=Pi (show Wt Tryz.prog 65 [c3,c4,c5,c6,c7] from hf 3 _ _ _ rfl);simp only[BF.C,List.cons.injEq,and_true] at hv3;obtain⟨rfl,rfl,rfl,rfl,rfl⟩:=hv3
  obtain⟨v4,hv4⟩:=Pi (show Wt Tryz.prog 65 [c8,c9,c10,c11,c12] from hf 4 _ _ _ rfl);simp only[BF.C,List.cons.injEq,and_true] at hv4;obtain⟨rfl,rfl,rfl,rfl,rfl⟩:=hv4
  obtain⟨v5,ev5,_⟩:=hr5
  have ev5:[c13]=_:=ev5
  injection ev5 with ev5;subst ev5
  exact⟨⟨v0,v1,v2,v3,v4,v5⟩,rfl⟩
theorem AEW {cs:List AV} (h:Wt Tryz.prog 24 cs):∃ l:List AB,cs=[.slice .foreign (l.map AB.av)]∧l.length<9223372036854775808:=(Vn h).2 rfl
theorem Lw:GP Tryz.prog 26=some [(3,0,1),(3,1,1),(23,2,1),(24,3,1),(4,4,1)]:=by kernel_rfl
theorem Wx {t:TypeId} {cs:List AV} (h:Wt Tryz.prog t cs):(t=26→∃ x:AA,cs=x.C)∧(t=23→∃ xs:List AA,cs=[.slice .foreign (xs.map AA.av)]∧xs.length<9223372036854775808):=by
 obtain⟨fs,hfs⟩:=XT Lw
 have hs23:Tryz.prog.underlying 23=some (.slice 26):=by kernel_rfl
 induction h with
 | bool t b ht=>exact⟨fun h=>by(subst h;rw[hfs] at ht;cases ht),fun h=>by(subst h;rw[hs23] at ht;cases ht)⟩
 | int t b n ht=>exact⟨fun h=>by(subst h;rw[hfs] at ht;cases ht),fun h=>by(subst h;rw[hs23] at ht;cases ht)⟩
 | string t b ht=>exact⟨fun h=>by(subst h;rw[hfs] at ht;cases ht),fun h=>by(subst h;rw[hs23] at ht;cases ht)⟩
 | array t b n cs ht=>exact⟨fun h=>by(subst h;rw[hfs] at ht;cases ht),fun h=>by(subst h;rw[hs23] at ht;cases ht)⟩
 | slice t e es ht hl h hf ih =>
  refine⟨fun h=>by(subst h;rw[hfs] at ht;cases ht),fun h=>?_⟩
  ·subst h
   rw[hs23] at ht
   injection ht with ht;injection ht with ht;subst ht
   obtain⟨l,rfl,_⟩:=QL (P:=Tryz.prog) (f:=AA.av) (G:=fun _=>True) (fun x=>by rw[AA.av_eq];exact VH (by kernel_rfl)) (fun x hx=>let ⟨y,hy⟩:=(ih x hx).1 rfl;⟨y,by rw[hy,AA.av_eq];rfl,trivial⟩) hf
   exact⟨l,rfl,by simp[maxLen] at hl;omega⟩
 | struct t fs' cs ht hl h ih =>
  refine⟨fun e=>?_,fun h=>by(subst h;rw[hs23] at ht;cases ht)⟩
  subst e
  obtain⟨_,hf⟩:=(Wt.struct _ _ _ ht hl h).struct_inv Lw
  obtain⟨f2,g1,g2,g3,g4⟩:=Pb (i:=2) Lw ht rfl
  have hr2:=(ih 2 f2 g1).2 g2
  rw[g3,g4] at hr2
  clear g1 g2 g3 g4
  clear ih h
  rw[show Tryz.prog.cellsOf 26=5 by kernel_rfl] at hl
  obtain⟨c0,d0,rfl,hn0⟩:=CS hl
  obtain⟨c1,d1,rfl,hn1⟩:=CS hn0
  obtain⟨c2,d2,rfl,hn2⟩:=CS hn1
  obtain⟨c3,d3,rfl,hn3⟩:=CS hn2
  obtain⟨c4,d4,rfl,hn4⟩:=CS hn3
  obtain rfl:=List.length_eq_zero_iff.1 hn4
  obtain⟨v0,rfl⟩:=Wt.i64 (show Tryz.prog.underlying 3=some (.int .i64) by kernel_rfl) (show Wt Tryz.prog 3 [c0] from hf 0 _ _ _ rfl)
  obtain⟨v1,rfl⟩:=Wt.i64 (show Tryz.prog.underlying 3=some (.int .i64) by kernel_rfl) (show Wt Tryz.prog 3 [c1] from hf 1 _ _ _ rfl)
  obtain⟨v2,ev2,_⟩:=hr2
  have ev2:[c2]=_:=ev2
  injection ev2 with ev2;subst ev2
  obtain⟨v3,e,_⟩:=AEW (show Wt Tryz.prog 24 [c3] from hf 3 _ _ _ rfl);injection e with e;subst e
  obtain⟨v4,rfl⟩:=Wt.b (show Tryz.prog.underlying 4=some (.bool) by kernel_rfl) (show Wt Tryz.prog 4 [c4] from hf 4 _ _ _ rfl)
  exact⟨⟨v0,v1,v2,v3,v4⟩,rfl⟩
theorem Ph {cs:List AV} (h:Wt Tryz.prog 26 cs):∃ x:AA,cs=x.C:=(Wx h).1 rfl
theorem Wb:GP Tryz.prog 28=some [(22,0,1),(26,1,5)]:=by kernel_rfl
theorem WB {cs:List AV} (h:Wt Tryz.prog 28 cs):∃ x:BY,cs=x.C:=by
 obtain⟨hl,hf⟩:=h.struct_inv Wb
 rw[show Tryz.prog.cellsOf 28=6 by kernel_rfl] at hl
 obtain⟨c0,d0,rfl,hn0⟩:=CS hl
 obtain⟨c1,d1,rfl,hn1⟩:=CS hn0
 obtain⟨c2,d2,rfl,hn2⟩:=CS hn1
 obtain⟨c3,d3,rfl,hn3⟩:=CS hn2
 obtain⟨c4,d4,rfl,hn4⟩:=CS hn3
 obtain⟨c5,d5,rfl,hn5⟩:=CS hn4
 obtain rfl:=List.length_eq_zero_iff.1 hn5
 obtain⟨v0,e,_⟩:=AMI (show Wt Tryz.prog 22 [c0] from hf 0 _ _ _ rfl);injection e with e;subst e
 obtain⟨v1,hv1⟩:=Ph (show Wt Tryz.prog 26 [c1,c2,c3,c4,c5] from hf 1 _ _ _ rfl);simp only[AA.C,List.cons.injEq,and_true] at hv1;obtain⟨rfl,rfl,rfl,rfl,rfl⟩:=hv1
 exact⟨⟨v0,v1⟩,rfl⟩
theorem YE:GP Tryz.prog 98=some [(3,0,1),(24,1,1),(40,2,1),(40,3,1),(40,4,1)]:=by kernel_rfl
theorem Xv {cs:List AV} (h:Wt Tryz.prog 98 cs):∃ x:AD,cs=x.C:=by
 obtain⟨hl,hf⟩:=h.struct_inv YE
 rw[show Tryz.prog.cellsOf 98=5 by kernel_rfl] at hl
 obtain⟨c0,d0,rfl,hn0⟩:=CS hl
 obtain⟨c1,d1,rfl,hn1⟩:=CS hn0
 obtain⟨c2,d2,rfl,hn2⟩:=CS hn1
 obtain⟨c3,d3,rfl,hn3⟩:=CS hn2
 obtain⟨c4,d4,rfl,hn4⟩:=CS hn3
 obtain rfl:=List.length_eq_zero_iff.1 hn4
 obtain⟨v0,rfl⟩:=Wt.i64 (show Tryz.prog.underlying 3=some (.int .i64) by kernel_rfl) (show Wt Tryz.prog 3 [c0] from hf 0 _ _ _ rfl)
 obtain⟨v1,e,_⟩:=AEW (show Wt Tryz.prog 24 [c1] from hf 1 _ _ _ rfl);injection e with e;subst e
 obtain⟨v2,rfl⟩:=Wt.w (show Tryz.prog.underlying 40=some (.int .u64) by kernel_rfl) (show Wt Tryz.prog 40 [c2] from hf 2 _ _ _ rfl)
 obtain⟨v3,rfl⟩:=Wt.w (show Tryz.prog.underlying 40=some (.int .u64) by kernel_rfl) (show Wt Tryz.prog 40 [c3] from hf 3 _ _ _ rfl)
 obtain⟨v4,rfl⟩:=Wt.w (show Tryz.prog.underlying 40=some (.int .u64) by kernel_rfl) (show Wt Tryz.prog 40 [c4] from hf 4 _ _ _ rfl)
 exact⟨⟨v0,v1,v2,v3,v4⟩,rfl⟩
theorem ALb {cs:List AV} (h:Wt Tryz.prog 29 cs):∃ l:List AD,cs=[.slice .foreign (l.map AD.av)]∧l.length<9223372036854775808:=by
 obtain⟨es,hn,h1,h2,h3⟩:=h.slice_inv (show Tryz.prog.underlying 29=some (.slice 98) by kernel_rfl)
 subst hn
 have hd:∀ cs,Wt Tryz.prog 98 cs→∃ y,cs=(AD.av y).cells∧True:=fun cs hc=>let ⟨x,hx⟩:=Xv hc;⟨x,by first | (rw[hx,AD.av_eq];rfl) | (rw[hx];rfl),trivial⟩
 obtain⟨l,rfl,_⟩:=QL (P:=Tryz.prog) (f:=AD.av) (G:=fun _=>True) (fun x=>by first | (rw[AD.av_eq];exact VH (by kernel_rfl)) | exact VH (cs:=AD.C x) (by kernel_rfl)) (fun x hx=>hd _ (h2 x hx)) h3
 exact⟨l,rfl,by simp[maxLen] at h1;omega⟩
theorem AET {cs:List AV} (h:Wt Tryz.prog 30 cs):∃ l:List AC,cs=[.slice .foreign (l.map AV.w)]∧l.length<9223372036854775808:=by
 obtain⟨es,hn,h1,h2,h3⟩:=h.slice_inv (show Tryz.prog.underlying 30=some (.slice 40) by kernel_rfl)
 subst hn
 have hd:∀ cs,Wt Tryz.prog 40 cs→∃ y,cs=(AV.w y).cells∧True:=fun cs hc=>let ⟨n,hx,h1,h2⟩:=hc.int_inv (show Tryz.prog.underlying 40=some (.int .u64) by kernel_rfl);⟨BitVec.ofNat 64 n.toNat,by rw[hx,← AEZ h1 h2];rfl,trivial⟩
 obtain⟨l,rfl,_⟩:=QL (P:=Tryz.prog) (f:=AV.w) (G:=fun _=>True) (fun x=>AES (by kernel_rfl) rfl) (fun x hx=>hd _ (h2 x hx)) h3
 exact⟨l,rfl,by simp[maxLen] at h1;omega⟩
theorem Vz:GP Tryz.prog 32=some [(30,0,1),(30,1,1)]:=by kernel_rfl
theorem Vu {cs:List AV} (h:Wt Tryz.prog 32 cs):∃ x:Ay,cs=x.C:=by
 obtain⟨hl,hf⟩:=h.struct_inv Vz
 rw[show Tryz.prog.cellsOf 32=2 by kernel_rfl] at hl
 obtain⟨c0,d0,rfl,hn0⟩:=CS hl
 obtain⟨c1,d1,rfl,hn1⟩:=CS hn0
 obtain rfl:=List.length_eq_zero_iff.1 hn1
 obtain⟨v0,e,_⟩:=AET (show Wt Tryz.prog 30 [c0] from hf 0 _ _ _ rfl);injection e with e;subst e
 obtain⟨v1,e,_⟩:=AET (show Wt Tryz.prog 30 [c1] from hf 1 _ _ _ rfl);injection e with e;subst e
 exact⟨⟨v0,v1⟩,rfl⟩
theorem Vi:GP Tryz.prog 34=some [(3,0,1),(29,1,1),(32,2,2)]:=by kernel_rfl
theorem Vc {cs:List AV} (h:Wt Tryz.prog 34 cs):∃ x:AZ,cs=x.C:=by
 obtain⟨hl,hf⟩:=h.struct_inv Vi
 rw[show Tryz.prog.cellsOf 34=4 by kernel_rfl] at hl
 obtain⟨c0,d0,rfl,hn0⟩:=CS hl
 obtain⟨c1,d1,rfl,hn1⟩:=CS hn0
 obtain⟨c2,d2,rfl,hn2⟩:=CS hn1
 obtain⟨c3,d3,rfl,hn3⟩:=CS hn2
 obtain rfl:=List.length_eq_zero_iff.1 hn3
 obtain⟨v0,rfl⟩:=Wt.i64 (show Tryz.prog.underlying 3=some (.int .i64) by kernel_rfl) (show Wt Tryz.prog 3 [c0] from hf 0 _ _ _ rfl)
 obtain⟨v1,e,_⟩:=ALb (show Wt Tryz.prog 29 [c1] from hf 1 _ _ _ rfl);injection e with e;subst e
 obtain⟨v2,hv2⟩:=Vu (show Wt Tryz.prog 32 [c2,c3] from hf 2 _ _ _ rfl);simp only[Ay.C,List.cons.injEq,and_true] at hv2;obtain⟨rfl,rfl⟩:=hv2
 exact⟨⟨v0,v1,v2⟩,rfl⟩
end
end Go.Proofs.YtjnnhjgjecgomaaGreat.G
namespace Go.Proofs.YtjnnhjgjecgomaaGreat.DeepTells
open Go.ChangeShapes Go.WideShapes Go.ChangeAt Go.RowKit Go.Proofs.YtjnnhjgjecgomaaGreat.G
theorem own:ownKnob Tryz.prog.godebug=none:=by kernel_rfl
theorem Vs:laidOutB Tryz.prog=true:=by kernel_rfl
set_option maxRecDepth 100000 in
theorem AME (os:Os) (started:os.Started) (H:Type) (enc:TypeId × Value→H) :
  ReturnsInHanded {} Tryz.checked os 3 .any (Rows.deepTellsSpec.pre6 enc Tryz.prog Tryz.f3 Rows.deepTellsRow.domain false) (Rows.deepTellsSpec.post enc Tryz.prog Tryz.f3 false true false false):=by
 refine returnsInHanded_of_change_sized (C:=Tryz.checked) own started (by kernel_rfl) Tryz.func3
  (ChangeSpec.witness6 (enc:=enc) (C:=Tryz.checked) false ⟨#[],#[.agg #[.slice none 0 0,.int .i64 0,.int .i64 0,.slice none 0 0,.slice none 0 0,.bool false],.agg #[.int .i64 0,.slice none 0 0,.slice none 0 0,.slice none 0 0],.agg #[.int .i64 0,.int .i64 0,.slice none 0 0,.slice none 0 0,.bool false]],[]⟩ 30 (by kernel_rfl) (by kernel_rfl) (by kernel_rfl) (by kernel_rfl)) ?_
 intro W base args ds gs before hval0 hW hcnd hsz0 _
 have hval:∀ (j:Nat) t v,Tryz.f3.params[j]?=some t→args[j]?=some v→Value.okWide Tryz.prog W .any base t v:=hval0
 have hW':=hW
 obtain⟨p,q,hA0,hV,rfl,hfz,hnd⟩:=hW
 have hA:DataW.TrodAll enc Tryz.prog W 0 (fun _=>true) true Tryz.f3.params.toList args.toList ds p:=hA0
 rw[Tryz.params3] at hA hval
 obtain⟨u0,vs0,d0,ds0,p0,q0,hargs,rfl,rfl,h0,r0⟩:=trodAll_cons hA
 obtain⟨u1,vs1,d1,ds1,p1,q1,rfl,rfl,rfl,h1,r1⟩:=trodAll_cons r0
 obtain⟨u2,vs2,d2,ds2,p2,q2,rfl,rfl,rfl,h2,r2⟩:=trodAll_cons r1
 obtain⟨rfl,rfl,rfl⟩:=trodAll_nil r2
 obtain rfl:args = #[u0,u1,u2]:=by cases args;simp_all
 obtain⟨rfl,rfl⟩:=trodVars_none hV
 have lt0:∀ x∈p0,x.block<W.heap.size:=by obtain⟨m,hm⟩:=h0;exact DataW.trod_lt m _ _ _ hm
 have lt1:∀ x∈p1,x.block<W.heap.size:=by obtain⟨m,hm⟩:=h1;exact DataW.trod_lt m _ _ _ hm
 have lt2:∀ x∈p2,x.block<W.heap.size:=by obtain⟨m,hm⟩:=h2;exact DataW.trod_lt m _ _ _ hm
 have hS:Zi Tryz.prog [28,22,3,26,23,24,67,65,63,4,2,34,29,98,40,32,30]=true:=by kernel_rfl
 obtain⟨a0,as0,rep0,wt0,of0⟩:=Nl hS (by simp) (hval 0 28 u0 rfl rfl) h0
 obtain⟨a1,as1,rep1,wt1,of1⟩:=Nl hS (by simp) (hval 1 34 u1 rfl rfl) h1
 obtain⟨a2,as2,rep2,wt2,of2⟩:=Nl hS (by simp) (hval 2 26 u2 rfl rfl) h2
 obtain rfl:=Qa (by kernel_rfl) of0
 obtain⟨x0,rfl⟩:=WB wt0
 obtain rfl:=Qa (by kernel_rfl) of1
 obtain⟨x1,rfl⟩:=Vc wt1
 obtain rfl:=Qa (by kernel_rfl) of2
 obtain⟨x2,rfl⟩:=Ph wt2
 refine((Eu.w.w (x0,x1,x2) true (VD x0 x1 x2)).law (fun q hq=>by cases hq) (.cons rep0 (.cons rep1 (.cons rep2 .nil)))).mono fun e W' ⟨he,bel⟩=>?_
 subst he
 exact⟨_,rfl,_,_,_,[],_,[],hW',trodAll_mk1 (shut_bool Tryz.underlying4 _),(trodAll_cons_mk (Below.trod Vs (by kernel_rfl) (of_decide_eq_true (by kernel_rfl)) h0 bel lt0) (trodAll_cons_mk (Below.trod Vs (by kernel_rfl) (of_decide_eq_true (by kernel_rfl)) h1 bel lt1) (trodAll_cons_mk (Below.trod Vs (by kernel_rfl) (of_decide_eq_true (by kernel_rfl)) h2 bel lt2) trodAll_mk0))),rfl,bel.frame _,fun h=>by cases h⟩
theorem over:Rows.deepTellsRow.holds Tryz.pinned (OpenSpec.ofChange Rows.deepTellsSpec) :=
 OpenClaim.holds_of_wide 3 Tryz.f3 rfl rfl rfl rfl rfl rfl rfl ⟨rfl,rfl,rfl,rfl,rfl⟩ rfl rfl rfl rfl rfl (by kernel_rfl) Tryz.func3 (by kernel_rfl)
  (of_decide_eq_true (by kernel_rfl)) (by unfold Func.isWrapper;first | (rw[if_pos (by decide +kernel)];kernel_rfl) | (rw[if_neg (by decide +kernel)];exact⟨rfl,rfl⟩))
  (fun os started H enc _=>AME os started H enc)
end Go.Proofs.YtjnnhjgjecgomaaGreat.DeepTells
namespace Go.Proofs.YtjnnhjgjecgomaaGreat
theorem deepTells_holds:Rows.DeepTellsSaid:=DeepTells.over
end Go.Proofs.YtjnnhjgjecgomaaGreat
