/-
DpsubTells: the law returns true whatever the input.
-/
import Derived.Test.YtjnnhjgjecgomaaGreatDpsubTells6
import Derived.KernelRfl
import Derived.WalkKit
import Derived.ProofKit
import Derived.OpenShut
import Derived.ChangeOld
import Derived.Below
import Derived.Carry
import Derived.SizedLaws
import Derived.Test.YtjnnhjgjecgomaaGreatRows
set_option linter.unusedVariables false
set_option linter.unusedSimpArgs false
set_option maxRecDepth 100000
set_option maxHeartbeats 8000000
namespace Go.Proofs.YtjnnhjgjecgomaaGreat.G
section
def He (k:Nat):Nat→Nat→Nat
 | 0,_=>0
 | n+1,N=>N % 2 ^ k+He k n (N / 2 ^ k)
def DF (k:Nat):Nat→Nat
 | 0=>0
 | n+1=>(2 ^ k - 1)+2 ^ (2 * k) * DF k n
theorem Wb (k a b c d:Nat) (ha:a<2 ^ k) (hc:c<2 ^ k):(a+2 ^ k * b)&&&(c+2 ^ k * d)=(a&&&c)+2 ^ k * (b&&&d):=by
 have hac:(a&&&c)<2 ^ k:=Nat.lt_of_le_of_lt Nat.and_le_left ha
 apply Nat.eq_of_testBit_eq
 intro i
 rw[Nat.testBit_and,Nat.add_comm a,Nat.add_comm c,Nat.add_comm (a&&&c),Nat.testBit_two_pow_mul_add _ ha,Nat.testBit_two_pow_mul_add _ hc,Nat.testBit_two_pow_mul_add _ hac]
 split
 ·rw[Nat.testBit_and]
 ·rw[Nat.testBit_and]
theorem AIi (k a:Nat) (ha:a<2 ^ k):a&&&(2 ^ k - 1)=a:=by
 rw[Nat.and_two_pow_sub_one_eq_mod];exact Nat.mod_eq_of_lt ha
theorem Jg (k:Nat) (n N:Nat):N&&&DF k (n+1)=N % 2 ^ k+2 ^ (2 * k) * (N / 2 ^ (2 * k)&&&DF k n):=by
 have hp:0<2 ^ k:=Nat.pow_pos (by omega)
 have e2:(2:Nat) ^ (2 * k)=2 ^ k * 2 ^ k:=by rw[Nat.two_mul,Nat.pow_add]
 have h1:N=N % 2 ^ k+2 ^ k * (N / 2 ^ k % 2 ^ k+2 ^ k * (N / 2 ^ (2 * k))):=by
  rw[e2,← Nat.div_div_eq_div_mul,Nat.mod_add_div,Nat.mod_add_div]
 have h2:DF k (n+1)=(2 ^ k - 1)+2 ^ k * (0+2 ^ k * DF k n):=by
  rw[DF,e2,Nat.zero_add,Nat.mul_assoc]
 have hm:N % 2 ^ k<2 ^ k:=Nat.mod_lt _ hp
 conv=>lhs;rw[h1,h2]
 rw[Wb k _ _ _ _ hm (by omega),Wb k _ _ _ _ (Nat.mod_lt _ hp) hp,Nat.and_zero,AIi k _ hm,Nat.zero_add,e2,Nat.mul_assoc]
theorem Sz (k:Nat) (hk:1≤k):∀ (n N:Nat),He (2 * k) n ((N / 2 ^ k&&&DF k n)+(N&&&DF k n))=He k (2 * n) N:=by
 have hp:0<2 ^ k:=Nat.pow_pos (by omega)
 have e2:(2:Nat) ^ (2 * k)=2 ^ k * 2 ^ k:=by rw[Nat.two_mul,Nat.pow_add]
 have hk2:2 * 2 ^ k≤2 ^ k * 2 ^ k:=Nat.mul_le_mul_right _ (by have:=Nat.pow_le_pow_right (show 0<2 by omega) hk;omega)
 intro n
 induction n with
 | zero=>intro N;rfl
 | succ n ih =>
  intro N
  rw[Jg,Jg]
  have h1:N / 2 ^ k / 2 ^ (2 * k)=N / 2 ^ (2 * k) / 2 ^ k:=by rw[Nat.div_div_eq_div_mul,Nat.div_div_eq_div_mul,Nat.mul_comm]
  rw[h1]
  have hd1:=Nat.mod_lt (N / 2 ^ k) hp
  have hd0:=Nat.mod_lt N hp
  have h2:N / 2 ^ k % 2 ^ k+2 ^ (2 * k) * (N / 2 ^ (2 * k) / 2 ^ k&&&DF k n)+(N % 2 ^ k+2 ^ (2 * k) * (N / 2 ^ (2 * k)&&&DF k n))=(N / 2 ^ k % 2 ^ k+N % 2 ^ k)+2 ^ (2 * k) * ((N / 2 ^ (2 * k) / 2 ^ k&&&DF k n)+(N / 2 ^ (2 * k)&&&DF k n)):=by
   rw[Nat.mul_add];omega
  rw[h2,He,show 2 * (n+1)=2 * n+1+1 by omega,He,He]
  have hlt:N / 2 ^ k % 2 ^ k+N % 2 ^ k<2 ^ (2 * k):=by rw[e2];omega
  rw[Nat.add_mul_mod_self_left,Nat.mod_eq_of_lt hlt,Nat.add_mul_div_left _ _ (Nat.pow_pos (by omega)),Nat.div_eq_of_lt hlt,Nat.zero_add,ih]
  rw[Nat.div_div_eq_div_mul N,← e2]
  omega
theorem AC8:∀ (n N:Nat),He 1 n N=((List.range n).filter fun i=>N.testBit i).length:=by
 intro n
 induction n with
 | zero=>intro N;rfl
 | succ n ih =>
  intro N
  rw[He,ih,List.range_succ_eq_map,List.filter_cons]
  have h:((List.map Nat.succ (List.range n)).filter fun i=>N.testBit i).length=((List.range n).filter fun i=>(N / 2 ^ 1).testBit i).length:=by
   rw[List.filter_map,List.length_map]
   congr 1
   refine List.filter_congr fun i _=>?_
   simp[Nat.testBit_succ]
  have hb:N.testBit 0=decide (N % 2=1):=Nat.testBit_zero N
  rw[hb]
  by_cases h2:N % 2=1
  ·rw[decide_eq_true h2,if_pos rfl,List.length_cons,h];simp[h2];omega
  ·rw[decide_eq_false h2,if_neg (by simp),h];have:N % 2=0:=by omega
   simp[this]
def Dg (k c:Nat):Nat→Nat→Prop
 | 0,_=>True
 | n+1,N=>N % 2 ^ k≤c∧Dg k c n (N / 2 ^ k)
theorem AAq (k:Nat) (hk:1≤k):∀ (n N:Nat),Dg (2 * k) (2 * 2 ^ k - 2) n ((N / 2 ^ k&&&DF k n)+(N&&&DF k n)):=by
 have hp:0<2 ^ k:=Nat.pow_pos (by omega)
 have e2:(2:Nat) ^ (2 * k)=2 ^ k * 2 ^ k:=by rw[Nat.two_mul,Nat.pow_add]
 have hk2:2 * 2 ^ k≤2 ^ k * 2 ^ k:=Nat.mul_le_mul_right _ (by have:=Nat.pow_le_pow_right (show 0<2 by omega) hk;omega)
 intro n
 induction n with
 | zero=>intro N;trivial
 | succ n ih =>
  intro N
  rw[Jg,Jg]
  have h1:N / 2 ^ k / 2 ^ (2 * k)=N / 2 ^ (2 * k) / 2 ^ k:=by rw[Nat.div_div_eq_div_mul,Nat.div_div_eq_div_mul,Nat.mul_comm]
  rw[h1]
  have hd1:=Nat.mod_lt (N / 2 ^ k) hp
  have hd0:=Nat.mod_lt N hp
  have h2:N / 2 ^ k % 2 ^ k+2 ^ (2 * k) * (N / 2 ^ (2 * k) / 2 ^ k&&&DF k n)+(N % 2 ^ k+2 ^ (2 * k) * (N / 2 ^ (2 * k)&&&DF k n))=(N / 2 ^ k % 2 ^ k+N % 2 ^ k)+2 ^ (2 * k) * ((N / 2 ^ (2 * k) / 2 ^ k&&&DF k n)+(N / 2 ^ (2 * k)&&&DF k n)):=by
   rw[Nat.mul_add];omega
  rw[h2]
  have hlt:N / 2 ^ k % 2 ^ k+N % 2 ^ k<2 ^ (2 * k):=by rw[e2];omega
  refine⟨?_,?_⟩
  ·rw[Nat.add_mul_mod_self_left,Nat.mod_eq_of_lt hlt];omega
  ·rw[Nat.add_mul_div_left _ _ (Nat.pow_pos (by omega)),Nat.div_eq_of_lt hlt,Nat.zero_add];exact ih _
theorem AGx:∀ (n N:Nat),Dg 4 7 (2 * n+1) N→(N / 2 ^ 4+N)&&&DF 4 n=(N / 2 ^ 4&&&DF 4 n)+(N&&&DF 4 n):=by
 intro n
 induction n with
 | zero=>intro N _;simp[DF]
 | succ n ih =>
  intro N h
  rw[show 2 * (n+1)+1=2 * n+1+1+1 by omega] at h
  obtain⟨h0,h1,h2⟩:=h
  have h3:N / 2 ^ 4 / 2 ^ 4 % 2 ^ 4≤7:=h2.1
  have h4:=ih (N / 2 ^ 4 / 2 ^ 4) h2
  have h0':N % 16≤7:=h0
  have h1':N / 16 % 16≤7:=h1
  have h3':N / 16 / 16 % 16≤7:=h3
  have h4':(N / 16 / 16 / 16+N / 16 / 16)&&&DF 4 n=(N / 16 / 16 / 16&&&DF 4 n)+(N / 16 / 16&&&DF 4 n):=h4
  clear h0 h1 h3 h4 h2 ih
  have k1:=Jg 4 n (N / 16+N)
  have k2:=Jg 4 n (N / 16)
  have k3:=Jg 4 n N
  rw[show (2:Nat) ^ (2 * 4)=256 from rfl,show (2:Nat) ^ 4=16 from rfl] at k1 k2 k3
  show (N / 16+N)&&&DF 4 (n+1)=(N / 16&&&DF 4 (n+1))+(N&&&DF 4 (n+1))
  have a1:(N / 16+N) / 256=N / 16 / 16 / 16+N / 16 / 16:=by omega
  have a2:(N / 16+N) % 16=N / 16 % 16+N % 16:=by omega
  have a3:N / 16 / 256=N / 16 / 16 / 16:=by omega
  have a4:N / 256=N / 16 / 16:=by omega
  rw[k1,k2,k3,a1,a2,a3,a4,h4',Nat.mul_add]
  omega
theorem AJq:DF 1 32=6148914691236517205:=by decide
theorem ALb:DF 2 16=3689348814741910323:=by decide
theorem ALU:DF 4 8=1085102592571150095:=by decide
theorem AIo {k c:Nat}:∀ {n:Nat},Dg k c n 0:=by
 intro n
 induction n with
 | zero=>trivial
 | succ n ih=>exact⟨by simp,by simpa using ih⟩
theorem AIJ {k c:Nat}:∀ {n m N:Nat},N<2 ^ (k * n)→Dg k c n N→Dg k c m N:=by
 intro n
 induction n with
 | zero =>
      intro m N hN _;obtain rfl:N=0:=by simpa using hN
      exact AIo
 | succ n ih =>
  intro m N hN h
  cases m with
  | zero=>trivial
  | succ m =>
   refine⟨h.1,ih ?_ h.2⟩
   rw[Nat.div_lt_iff_lt_mul (Nat.pow_pos (by omega)),← Nat.pow_add]
   rwa [show k * n+k=k * (n+1) by rw[Nat.mul_succ]]
theorem ADe {N:Nat} (hNlt:N<2 ^ 64) (e0:N % 256≤30) (e1:N / 256 % 256≤30) (e2:N / 256 / 256 % 256≤30) (e3:N / 256 / 256 / 256 % 256≤30) (e4:N / 256 / 256 / 256 / 256 % 256≤30) (e5:N / 256 / 256 / 256 / 256 / 256 % 256≤30) (e6:N / 256 / 256 / 256 / 256 / 256 / 256 % 256≤30) (e7:N / 256 / 256 / 256 / 256 / 256 / 256 / 256 % 256≤30):N≤2170205185142300190:=by
 have u1:N / 256<72057594037927936:=by have:=hNlt;omega
 have u2:N / 256 / 256<281474976710656:=by have:=u1;omega
 have u3:N / 256 / 256 / 256<1099511627776:=by have:=u2;omega
 have u4:N / 256 / 256 / 256 / 256<4294967296:=by have:=u3;omega
 have u5:N / 256 / 256 / 256 / 256 / 256<16777216:=by have:=u4;omega
 have u6:N / 256 / 256 / 256 / 256 / 256 / 256<65536:=by have:=u5;omega
 have u7:N / 256 / 256 / 256 / 256 / 256 / 256 / 256<256:=by have:=u6;omega
 have v7:N / 256 / 256 / 256 / 256 / 256 / 256 / 256≤30:=by omega
 have v6:N / 256 / 256 / 256 / 256 / 256 / 256≤7710:=by have:=v7;omega
 have v5:N / 256 / 256 / 256 / 256 / 256≤1973790:=by have:=v6;omega
 have v4:N / 256 / 256 / 256 / 256≤505290270:=by have:=v5;omega
 have v3:N / 256 / 256 / 256≤129354309150:=by have:=v4;omega
 have v2:N / 256 / 256≤33114703142430:=by have:=v3;omega
 have v1:N / 256≤8477364004462110:=by have:=v2;omega
 have v0:N≤2170205185142300190:=by have:=v1;omega
 exact v0
theorem Zt {a lo h n:Nat} (e:a=lo+n * h) (hl:lo<n):a / n=h:=by
 rw[e,Nat.add_mul_div_left _ _ (by omega),Nat.div_eq_of_lt hl,Nat.zero_add]
theorem AKA {a s t:Nat} (e:a=s+256 * t) (hs:s≤64):a % 128=s:=by omega
theorem AJL {N e0 e1 e2 e3 e4 e5 e6 e7:Nat} (hN:N=e0+256 * e1+65536 * e2+16777216 * e3+4294967296 * e4+1099511627776 * e5+281474976710656 * e6+72057594037927936 * e7) (h0:e0≤30) (h1:e1≤30) (h2:e2≤30) (h3:e3≤30) (h4:e4≤30) (h5:e5≤30) (h6:e6≤30) (h7:e7≤30) (hs:e0+e1+e2+e3+e4+e5+e6+e7≤64) :
  (((N+N / 256)+(N+N / 256) / 65536)+((N+N / 256)+(N+N / 256) / 65536) / 4294967296) % 128=e0+e1+e2+e3+e4+e5+e6+e7:=by
 have a1:N / 256=e1+256 * e2+65536 * e3+16777216 * e4+4294967296 * e5+1099511627776 * e6+281474976710656 * e7:=Zt (lo:=e0) (by rw[hN];clear hN hs;omega) (by omega)
 have a2:N+N / 256=(e0+e1)+256 * (e1+e2)+65536 * (e2+e3)+16777216 * (e3+e4)+4294967296 * (e4+e5)+1099511627776 * (e5+e6)+281474976710656 * (e6+e7)+72057594037927936 * e7:=by rw[a1,hN];clear a1 hN hs h0 h1 h2 h3 h4 h5 h6 h7;omega
 generalize N+N / 256=M at *
 clear hN a1
 have a3:M / 65536=(e2+e3)+256 * (e3+e4)+65536 * (e4+e5)+16777216 * (e5+e6)+4294967296 * (e6+e7)+1099511627776 * e7:=Zt (lo:=(e0+e1)+256 * (e1+e2)) (by rw[a2];clear a2 hs h0 h1 h2 h3 h4 h5 h6 h7;omega) (by clear a2;omega)
 have a4:M+M / 65536=((e0+e1)+(e2+e3))+256 * ((e1+e2)+(e3+e4))+65536 * ((e2+e3)+(e4+e5))+16777216 * ((e3+e4)+(e5+e6))+4294967296 * ((e4+e5)+(e6+e7))+1099511627776 * ((e5+e6)+e7)+281474976710656 * (e6+e7)+72057594037927936 * e7:=by rw[a3,a2];clear a3 a2 hs h0 h1 h2 h3 h4 h5 h6 h7;omega
 generalize M+M / 65536=K at *
 clear a2 a3
 have a5:K / 4294967296=((e4+e5)+(e6+e7))+256 * ((e5+e6)+e7)+65536 * (e6+e7)+16777216 * e7:=Zt (lo:=((e0+e1)+(e2+e3))+256 * ((e1+e2)+(e3+e4))+65536 * ((e2+e3)+(e4+e5))+16777216 * ((e3+e4)+(e5+e6))) (by rw[a4];clear a4 hs h0 h1 h2 h3 h4 h5 h6 h7;omega) (by clear a4;omega)
 refine AKA (t:=(((e1+e2)+(e3+e4))+((e5+e6)+e7))+256 * (((e2+e3)+(e4+e5))+(e6+e7))+65536 * (((e3+e4)+(e5+e6))+e7)+16777216 * ((e4+e5)+(e6+e7))+4294967296 * ((e5+e6)+e7)+1099511627776 * (e6+e7)+281474976710656 * e7) ?_ hs
 rw[a5,a4]
 clear a5 a4 hs h0 h1 h2 h3 h4 h5 h6 h7
 omega
theorem AC4 {N:Nat} (hNlt:N<2 ^ 64):N=(N % 256)+256 * (N / 256 % 256)+65536 * (N / 256 / 256 % 256)+16777216 * (N / 256 / 256 / 256 % 256)+4294967296 * (N / 256 / 256 / 256 / 256 % 256)+1099511627776 * (N / 256 / 256 / 256 / 256 / 256 % 256)+281474976710656 * (N / 256 / 256 / 256 / 256 / 256 / 256 % 256)+72057594037927936 * (N / 256 / 256 / 256 / 256 / 256 / 256 / 256 % 256):=by
 have u1:N / 256<72057594037927936:=by have:=hNlt;omega
 have u2:N / 256 / 256<281474976710656:=by have:=u1;omega
 have u3:N / 256 / 256 / 256<1099511627776:=by clear u1;have:=u2;omega
 have u4:N / 256 / 256 / 256 / 256<4294967296:=by clear u1 u2;have:=u3;omega
 have u5:N / 256 / 256 / 256 / 256 / 256<16777216:=by clear u1 u2 u3;have:=u4;omega
 have u6:N / 256 / 256 / 256 / 256 / 256 / 256<65536:=by clear u1 u2 u3 u4;have:=u5;omega
 have u7:N / 256 / 256 / 256 / 256 / 256 / 256 / 256<256:=by clear u1 u2 u3 u4 u5;have:=u6;omega
 have r7:N / 256 / 256 / 256 / 256 / 256 / 256 / 256 % 256=N / 256 / 256 / 256 / 256 / 256 / 256 / 256:=Nat.mod_eq_of_lt u7
 have r0:=Nat.mod_add_div (N) 256
 have r1:=Nat.mod_add_div (N / 256) 256
 have r2:=Nat.mod_add_div (N / 256 / 256) 256
 have r3:=Nat.mod_add_div (N / 256 / 256 / 256) 256
 have r4:=Nat.mod_add_div (N / 256 / 256 / 256 / 256) 256
 have r5:=Nat.mod_add_div (N / 256 / 256 / 256 / 256 / 256) 256
 have r6:=Nat.mod_add_div (N / 256 / 256 / 256 / 256 / 256 / 256) 256
 clear u1 u2 u3 u4 u5 u6 u7 hNlt
 generalize N % 256=d0 at *
 generalize N / 256=A1 at *
 generalize A1 % 256=d1 at *
 generalize A1 / 256=A2 at *
 generalize A2 % 256=d2 at *
 generalize A2 / 256=A3 at *
 generalize A3 % 256=d3 at *
 generalize A3 / 256=A4 at *
 generalize A4 % 256=d4 at *
 generalize A4 / 256=A5 at *
 generalize A5 % 256=d5 at *
 generalize A5 / 256=A6 at *
 generalize A6 % 256=d6 at *
 generalize A6 / 256=A7 at *
 generalize A7 % 256=d7 at *
 omega
def oc1 (x:AC):AC:=((x >>> (1#64).toNat)&&&6148914691236517205#64)+(x&&&6148914691236517205#64)
def oc2 (x:AC):AC:=((x >>> (2#64).toNat)&&&3689348814741910323#64)+(x&&&3689348814741910323#64)
def oc3 (x:AC):AC:=((x >>> (4#64).toNat)+x)&&&1085102592571150095#64
def oc4 (x:AC):AC:=x+(x >>> (8#64).toNat)
def oc5 (x:AC):AC:=x+(x >>> (16#64).toNat)
def oc6 (x:AC):AC:=x+(x >>> (32#64).toNat)
theorem AGc (x:AC):Di x=some (w64 ((BitVec.ofInt 64 (w64 ((oc6 (oc5 (oc4 (oc3 (oc2 (oc1 x)))))).toNat:Int))&&&BitVec.ofInt 64 127).toNat:Int)):=rfl
theorem AHu (x:AC):(oc1 x).toNat=(x.toNat / 2 ^ 1&&&DF 1 32)+(x.toNat&&&DF 1 32):=by
 unfold oc1
 rw[BitVec.toNat_add,BitVec.toNat_and,BitVec.toNat_and,BitVec.toNat_ushiftRight,Nat.shiftRight_eq_div_pow,AJq]
 have h1:(x.toNat / 2 ^ 1&&&6148914691236517205)≤6148914691236517205:=Nat.and_le_right
 have h2:(x.toNat&&&6148914691236517205)≤6148914691236517205:=Nat.and_le_right
 exact Nat.mod_eq_of_lt (by show (x.toNat / 2 ^ 1&&&6148914691236517205)+(x.toNat&&&6148914691236517205)<_;omega)
theorem AA1 (x:AC):(oc2 x).toNat=(x.toNat / 2 ^ 2&&&DF 2 16)+(x.toNat&&&DF 2 16):=by
 unfold oc2
 rw[BitVec.toNat_add,BitVec.toNat_and,BitVec.toNat_and,BitVec.toNat_ushiftRight,Nat.shiftRight_eq_div_pow,ALb]
 have h1:(x.toNat / 2 ^ 2&&&3689348814741910323)≤3689348814741910323:=Nat.and_le_right
 have h2:(x.toNat&&&3689348814741910323)≤3689348814741910323:=Nat.and_le_right
 exact Nat.mod_eq_of_lt (by show (x.toNat / 2 ^ 2&&&3689348814741910323)+(x.toNat&&&3689348814741910323)<_;omega)
theorem AIL (x:AC) (h:Dg 4 7 17 x.toNat):(oc3 x).toNat=(x.toNat / 2 ^ 4&&&DF 4 8)+(x.toNat&&&DF 4 8):=by
 have hx:=x.isLt
 have htop:x.toNat / 16 / 16 / 16 / 16 / 16 / 16 / 16 / 16 / 16 / 16 / 16 / 16 / 16 / 16 / 16 % 16≤7:=by
  have:=h.2.2.2.2.2.2.2.2.2.2.2.2.2.2.2.1
  simpa using this
 unfold oc3
 rw[BitVec.toNat_and,BitVec.toNat_add,BitVec.toNat_ushiftRight,Nat.shiftRight_eq_div_pow]
 have e:(x.toNat / 2 ^ (4#64).toNat+x.toNat) % 2 ^ 64=x.toNat / 2 ^ 4+x.toNat:=Nat.mod_eq_of_lt (by show x.toNat / 16+x.toNat<_;omega)
 rw[e,← AGx 8 x.toNat h,ALU];rfl
theorem AHv (x:AC):Di x=some ((Bf x).length:Int):=by
 let X1:=oc1 x
 let X2:=oc2 X1
 let X3:=oc3 X2
 have s1:He 2 32 X1.toNat=He 1 64 x.toNat:=by
  show He (2 * 1) 32 (oc1 x).toNat=_
  rw[AHu];exact Sz 1 (Nat.le_refl _) 32 x.toNat
 have s2:He 4 16 X2.toNat=He 2 32 X1.toNat:=by
  show He (2 * 2) 16 (oc2 X1).toNat=_
  rw[AA1];exact Sz 2 (by omega) 16 X1.toNat
 have d2:Dg 4 7 17 X2.toNat:=by
  have h:=AAq 2 (by omega) 16 X1.toNat
  rw[← AA1] at h
  have h':Dg 4 6 16 X2.toNat:=h
  have up:∀ n N,Dg 4 6 n N→Dg 4 7 n N:=by
   intro n
   induction n with
   | zero=>intro N _;trivial
   | succ n ih=>intro N h;exact⟨by have:=h.1;omega,ih _ h.2⟩
  exact AIJ (n:=16) X2.isLt (up _ _ h')
 have n3:=AIL X2 d2
 have s3:He 8 8 X3.toNat=He 4 16 X2.toNat:=by
  show He (2 * 4) 8 (oc3 X2).toNat=_
  rw[n3];exact Sz 4 (by omega) 8 X2.toNat
 have d3:Dg 8 30 8 X3.toNat:=by
  have h:=AAq 4 (by omega) 8 X2.toNat
  rw[← n3] at h
  exact h
 have cnt:He 8 8 X3.toNat=(Bf x).length:=by
  rw[s3,s2,s1,AC8]
  unfold Bf
  rw[List.length_map];rfl
 have hle:=AAp x
 obtain⟨e0,e1,e2,e3,e4,e5,e6,e7,_⟩:=d3
 simp only[He] at cnt
 rw[show (2:Nat) ^ 8=256 from rfl] at *
 rw[AGc]
 show some (w64 ((BitVec.ofInt 64 (w64 ((oc6 (oc5 (oc4 X3))).toNat:Int))&&&BitVec.ofInt 64 127).toNat:Int))=_
 generalize hN:X3.toNat=N at *
 have hNlt:N<2 ^ 64:=by rw[← hN];exact X3.isLt
 have hNb:=ADe hNlt e0 e1 e2 e3 e4 e5 e6 e7
 have y1:(oc4 X3).toNat=N+N / 256:=by
  unfold oc4
  rw[BitVec.toNat_add,BitVec.toNat_ushiftRight,Nat.shiftRight_eq_div_pow,hN]
  show (N+N / 256) % 2 ^ 64=_
  omega
 have y2:(oc5 (oc4 X3)).toNat=(N+N / 256)+(N+N / 256) / 65536:=by
  unfold oc5
  rw[BitVec.toNat_add,BitVec.toNat_ushiftRight,Nat.shiftRight_eq_div_pow,y1]
  show ((N+N / 256)+(N+N / 256) / 65536) % 2 ^ 64=_
  omega
 have y3:(oc6 (oc5 (oc4 X3))).toNat=((N+N / 256)+(N+N / 256) / 65536)+((N+N / 256)+(N+N / 256) / 65536) / 4294967296:=by
  unfold oc6
  rw[BitVec.toNat_add,BitVec.toNat_ushiftRight,Nat.shiftRight_eq_div_pow,y2]
  show (((N+N / 256)+(N+N / 256) / 65536)+((N+N / 256)+(N+N / 256) / 65536) / 4294967296) % 2 ^ 64=_
  omega
 generalize hY:oc6 (oc5 (oc4 X3))=Y at *
 have hY63:Y.toNat<9223372036854775808:=by omega
 have hw:w64 (Y.toNat:Int)=(Y.toNat:Int):=Ge (by omega) (by omega)
 rw[hw,BitVec.ofInt_natCast,BitVec.ofNat_toNat,BitVec.setWidth_eq]
 have hand:(Y&&&BitVec.ofInt 64 127).toNat=Y.toNat % 128:=by
  rw[BitVec.toNat_and]
  show Y.toNat&&&127=_
  exact Nat.and_two_pow_sub_one_eq_mod Y.toNat 7
 rw[hand]
 have hfin:Y.toNat % 128=(Bf x).length:=by
  rw[y3,AJL (AC4 hNlt) e0 e1 e2 e3 e4 e5 e6 e7 (by omega)]
  omega
 rw[hfin,Ge (by omega) (by omega)]
theorem Xw (x:AC):Gb x=some ((Bf x).length:Int):=by
 unfold Gb
 rw[AHv];rfl
end
section
theorem AKK:okF Tryz.f70=true:=by kernel_rfl
def DG (x:AF × AF):Option (Bool) :=
 if(decide (x.1.costs<x.2.costs))=true then
  some true
 else
  if(x.1.costs == x.2.costs)=true then
   some (decide (x.1.first<x.2.first))
  else
   some false
instance DG.w:AH DG (fun x r=>Fn Tryz.prog 70 [.agg (AF.C x.1),.agg (AF.C x.2)] (.bool r)):=⟨by
 intro x r h
 rw[DG] at h
 try dsimp only
 refine Fn.of_lc mix AMJ AKK (by rfl) (flC (AF.flatC _) (flC (AF.flatC _) (flN))) (.atom _) ?_
 simp -implicitDefEqProofs only[go_sem,Tryz.f70]
 exact AN⟩
end
section
@[go_sem] theorem APm:lrp Tryz.prog 71 1=(9,[]):=by kernel_rfl
@[go_sem] theorem AOE:lrp Tryz.prog 71 5=(5,[]):=by kernel_rfl
theorem AJ3:okF Tryz.f71=true:=by kernel_rfl
def CK.l0 (x:List AB × Int × Int × AA × AA):Option (AA) :=
 if(decide (x.2.2.1<x.2.1))=true then
  (AX x.1 x.2.2.1)>>=fun (e6:AB) =>
  Cj e6>>=fun r8 =>
  (room 128 x.2.2.2.2.Conj ([r8]))>>=fun (z10:List AB) =>
  CK.l0 (x.1,x.2.1,(w64 (x.2.2.1+1)),x.2.2.2.1,(⟨x.2.2.2.2.Kind,x.2.2.2.2.Table,x.2.2.2.2.Kids,z10,x.2.2.2.2.Hash⟩:AA))
 else
  some x.2.2.2.2
 partial_fixpoint
theorem CK.l0.ws:PC CK.l0 (fun x o=>∀ lo c (Q:EP) (hb:∀ s:AA,o=s→Q (.exit 0) ⟨[(6,.lref 6 0),(7,.lref 7 0)],[(6,[.v (.i64 x.2.2.2.1.Kind),.v (.i64 x.2.2.2.1.Table),.own 20000602 5 (x.2.2.2.1.Kids.map AA.av),.own 20000603 14 (x.2.2.2.1.Conj.map AB.av),.v (.bool x.2.2.2.1.Hash)]),(7,[.v (.i64 s.Kind),.v (.i64 s.Table),.v (.slice .foreign (s.Kids.map AA.av)),.own 20000703 14 (s.Conj.map AB.av),.v (.bool s.Hash)])]⟩),AJ Tryz.prog 71 lo c 0 (VQ Q) ⟨[(6,.lref 6 0),(7,.lref 7 0),(19,.v (.slice .foreign (x.1.map AB.av))),(20,.v (.i64 x.2.1)),(21,.v (.i64 x.2.2.1))],[(6,[.v (.i64 x.2.2.2.1.Kind),.v (.i64 x.2.2.2.1.Table),.own 20000602 5 (x.2.2.2.1.Kids.map AA.av),.own 20000603 14 (x.2.2.2.1.Conj.map AB.av),.v (.bool x.2.2.2.1.Hash)]),(7,[.v (.i64 x.2.2.2.2.Kind),.v (.i64 x.2.2.2.2.Table),.v (.slice .foreign (x.2.2.2.2.Kids.map AA.av)),.own 20000703 14 (x.2.2.2.2.Conj.map AB.av),.v (.bool x.2.2.2.2.Hash)])]⟩):=by
 refine CK.l0.partial_correctness _ ?_
 ·intro Rr Pw x o h
  have AFR:AH Rr _:=⟨Pw⟩
  intro lo c Q hb
  refine AJ.step mix AHZ (by kernel_rfl) ?_
  simp -implicitDefEqProofs only[go_sem,Tryz.f71]
  exact AN
instance CK.l0.w:type_of% (AH.mk CK.l0.ws):=⟨CK.l0.ws⟩
def CK (x:AW × AA × AA):Option (AA) :=
 BQ x.2.1>>=fun r1 =>
 BQ x.2.2>>=fun r3 =>
 CK.l0 (x.1.Preds,(x.1.Preds.length:Int),0,(⟨0,0,[],[],false⟩:AA),(⟨x.1.Kind,0,[r1,r3],[],false⟩:AA))>>=fun (o12:AA) =>
 some o12
instance CK.w:AH CK (fun x r=>Fn Tryz.prog 71 [.agg (AW.C x.1),.agg (AA.C x.2.1),.agg (AA.C x.2.2)] (.agg (AA.C r))):=⟨by
 intro x r h
 rw[CK] at h
 try dsimp only
 refine Fn.of_lc mix AHZ AJ3 (by rfl) (flC (AW.flatC _) (flC (AA.flatC _) (flC (AA.flatC _) (flN)))) (AA.flatC _) ?_
 simp -implicitDefEqProofs only[go_sem,Tryz.f71]
 exact AN⟩
end
section
@[go_sem] theorem APQ:lrp Tryz.prog 23 5=(10,[]):=by kernel_rfl
theorem ALK:okF Tryz.f23=true:=by kernel_rfl
@[go_sem] theorem AOb:lrp Tryz.prog 34 4=(6,[4]):=by kernel_rfl
theorem ALF:okF Tryz.f34=true:=by kernel_rfl
@[go_sem] theorem AO2:lrp Tryz.prog 27 7=(18,[]):=by kernel_rfl
@[go_sem] theorem AOC:lrp Tryz.prog 27 12=(8,[]):=by kernel_rfl
theorem ALg:okF Tryz.f27=true:=by kernel_rfl
def CU.l0 (x:List Int × Int × Int × (List (AC × AF)) × AT):Option ((List (AC × AF))) :=
 if(decide (x.2.2.1<x.2.1))=true then
  (AX x.1 x.2.2.1)>>=fun (e4:Int) =>
  Cl ([e4])>>=fun r6 =>
  CU.l0 (x.1,x.2.1,(w64 (x.2.2.1+1)),(Hh r6 (⟨(⟨0,e4,[],[],false⟩:AA),0#64,0#64⟩:AF) x.2.2.2.1),(⟨x.2.2.2.2.model,()⟩:AT))
 else
  some x.2.2.2.1
 partial_fixpoint
theorem CU.l0.ws:PC CU.l0 (fun x o=>∀ lo c (Q:EP) (hb:∀ s:(List (AC × AF)),o=s→Q (.exit 0) ⟨[(5,.lref 11 0)],[(9,[.mp (Ev Ga AF.av s)]),(11,[.v (.i64 x.2.2.2.2.model.Kind),.v (.slice .foreign (x.2.2.2.2.model.Edges.map AD.av)),.v (.slice .foreign (x.2.2.2.2.model.Stats.Rows.map AV.w)),.v (.slice .foreign (x.2.2.2.2.model.Stats.Sel.map AV.w)),.m 9])]⟩),AJ Tryz.prog 23 lo c 0 (VQ Q) ⟨[(5,.lref 11 0),(13,.v (.slice .foreign (x.1.map AV.i64))),(14,.v (.i64 x.2.1)),(15,.v (.i64 x.2.2.1))],[(9,[.mp (Ev Ga AF.av x.2.2.2.1)]),(11,[.v (.i64 x.2.2.2.2.model.Kind),.v (.slice .foreign (x.2.2.2.2.model.Edges.map AD.av)),.v (.slice .foreign (x.2.2.2.2.model.Stats.Rows.map AV.w)),.v (.slice .foreign (x.2.2.2.2.model.Stats.Sel.map AV.w)),.m 9])]⟩):=by
 refine CU.l0.partial_correctness _ ?_
 ·intro AFJ Qf x o h
  intro lo c Q hb
  refine AJ.step mix AHD (by kernel_rfl) ?_
  simp -implicitDefEqProofs only[go_sem,Tryz.f23]
  revert h;refine itE (fun h3 h=>?_) fun h3 h=>?_
  ·try simp -implicitDefEqProofs only[go_sem, *, -h]
   obtain⟨e4,h5,h⟩:=AE h;replace h5:=Dw h5;obtain⟨h5',h5⟩:=h5
   try simp -implicitDefEqProofs only[go_sem, *, -h]
   obtain⟨r6,h7,h⟩:=AE h
   have hw:=Cl.w.w ([e4]) _ h7
   simp -implicitDefEqProofs only[go_sem] at hw
   refine .plain _ _ rfl hw ?_
   clear hw
   try simp -implicitDefEqProofs only[go_sem, *, -h]
   refine LMset.map Ga AF.av (es:=x.2.2.2.1) (k:=r6) (v:=(⟨(⟨0,e4,[],[],false⟩:AA),0#64,0#64⟩:AF)) MY AL (by first | rfl | (first | rfl | simp -implicitDefEqProofs only[go_sem, *] <;> rfl)) AL ?_
   try simp -implicitDefEqProofs only[go_sem, *, -h]
   exact AJ.view [] AL (Qf _ _ h lo c Q hb)
  ·try simp -implicitDefEqProofs only[go_sem, *, -h]
   injection h with h;subst h
   exact .inr ⟨[],_,by(simp -implicitDefEqProofs only[go_sem, *] <;> first | done | rfl | trivial),hb _ rfl⟩
instance CU.l0.w:type_of% (AH.mk CU.l0.ws):=⟨CU.l0.ws⟩
def CU (x:Ae × AC):Option ((List (AC × AF)) × AT) :=
 CT x.2>>=fun r1 =>
 CU.l0 (r1,(r1.length:Int),0,([]:List (AC × AF)),(⟨x.1,()⟩:AT))>>=fun (o8:(List (AC × AF))) =>
 some (o8,(⟨x.1,()⟩:AT))
instance CU.w:AH CU (fun x r=>FnN Tryz.prog 23 [.a (.agg (Ae.C x.1)),.a (.w x.2)] (.lref 11 0) [(9,[.mp (Ev Ga AF.av r.1)]),(11,[.v (.i64 r.2.model.Kind),.v (.slice .foreign (r.2.model.Edges.map AD.av)),.v (.slice .foreign (r.2.model.Stats.Rows.map AV.w)),.v (.slice .foreign (r.2.model.Stats.Sel.map AV.w)),.m 9])]):=⟨by
 intro x r h
 rw[CU] at h
 try dsimp only
 refine FnN.of_lc mix AHD ALK (by rfl) (by rfl) (by rfl) fun c=>?_
 simp -implicitDefEqProofs only[go_sem,Tryz.f23]
 obtain⟨r1,h2,h⟩:=AE h
 refine .plain _ _ rfl (CT.w.w x.2 _ h2) ?_
 try simp -implicitDefEqProofs only[go_sem]
 obtain⟨o8,h9,h⟩:=AE h
 refine AJ.viewQ (AJ.view [] AL (CU.l0.w.w (r1,(r1.length:Int),0,([]:List (AC × AF)),(⟨x.1,()⟩:AT)) _ h9 _ _ _ ?_))
 intro s' hs';subst hs'
 try simp -implicitDefEqProofs only[go_sem]
 injection h with h;subst h
 refine⟨AL,AL⟩⟩
def Dj (x:AC × AT × (List (AC × AF))):Option (AA × AC × Bool) :=
 Pe x.2.2 x.1 ((⟨(⟨0,0,[],[],false⟩:AA),0#64,0#64⟩:AF):AF)>>=fun (v1:AF × Bool) =>
 BQ v1.1.thing>>=fun r3 =>
 some (r3,v1.1.costs,v1.2)
instance Dj.w:AH Dj (fun x r=>FnB Tryz.prog 34 [(3000000,[.v (.i64 x.2.1.model.Kind),.v (.slice .foreign (x.2.1.model.Edges.map AD.av)),.v (.slice .foreign (x.2.1.model.Stats.Rows.map AV.w)),.v (.slice .foreign (x.2.1.model.Stats.Sel.map AV.w)),.m 3000001]),(3000001,[.mp (Ev Ga AF.av x.2.2)])] [.p 3000000,.a (.w x.1)] (.tuple [.agg (AA.C r.1),.w r.2.1,.bool r.2.2]) [(3000000,[.v (.i64 x.2.1.model.Kind),.v (.slice .foreign (x.2.1.model.Edges.map AD.av)),.v (.slice .foreign (x.2.1.model.Stats.Rows.map AV.w)),.v (.slice .foreign (x.2.1.model.Stats.Sel.map AV.w)),.m 3000001]),(3000001,[.mp (Ev Ga AF.av x.2.2)])]):=⟨by
 intro x r h
 rw[Dj] at h
 try dsimp only
 refine FnB.of_lc mix ANB ALF (by rfl) (by rfl) fun c=>?_
 simp -implicitDefEqProofs only[go_sem,Tryz.f34]
 obtain⟨v1,h2,h⟩:=AE h
 refine LLook.map Ga AF.av (es:=x.2.2) (k:=x.1) (z:=((⟨(⟨0,0,[],[],false⟩:AA),0#64,0#64⟩:AF):AF)) h2 MY AL AL (by first | rfl | (first | rfl | simp -implicitDefEqProofs only[go_sem] <;> rfl)) ?_
 try simp -implicitDefEqProofs only[go_sem]
 obtain⟨r3,h4,h⟩:=AE h
 refine .plain _ _ rfl (BQ.w.w v1.1.thing _ h4) ?_
 try simp -implicitDefEqProofs only[go_sem]
 injection h with h;subst h
 first | exact⟨AL,[],by rfl,AL⟩ | exact⟨AL,[],by rfl⟩ | exact⟨AL,[],by(simp -implicitDefEqProofs only[go_sem] <;> first | done | rfl | trivial)⟩ | exact⟨[],by rfl,AL⟩ | exact⟨[],by rfl,by(simp -implicitDefEqProofs only[go_sem] <;> first | done | rfl | trivial)⟩⟩
def ES (x:AW × AC × AC × AT × (List (AC × AF))):Option (Bool × (List (AC × AF))) :=
 if((x.2.1&&&x.2.2.1) != 0#64)=true then
  some (false,x.2.2.2.2)
 else
  Pe x.2.2.2.2 x.2.1 ((⟨(⟨0,0,[],[],false⟩:AA),0#64,0#64⟩:AF):AF)>>=fun (v2:AF × Bool) =>
  Pe x.2.2.2.2 x.2.2.1 ((⟨(⟨0,0,[],[],false⟩:AA),0#64,0#64⟩:AF):AF)>>=fun (v4:AF × Bool) =>
  if v2.2=true then
   if v4.2=true then
    EU (x.2.2.2.1.model,x.2.1,x.2.2.1,x.1.Preds)>>=fun r8 =>
    Gz ([v2.1.costs,v4.1.costs,r8])>>=fun r10 =>
    Pe x.2.2.2.2 (x.2.1|||x.2.2.1) ((⟨(⟨0,0,[],[],false⟩:AA),0#64,0#64⟩:AF):AF)>>=fun (v12:AF × Bool) =>
    if v12.2=true then
     DG ((⟨(⟨0,0,[],[],false⟩:AA),r10,x.2.1⟩:AF),v12.1)>>=fun r15 =>
     if r15=true then
      CK (x.1,v2.1.thing,v4.1.thing)>>=fun r18 =>
      some (true,(Hh (x.2.1|||x.2.2.1) (⟨r18,r10,x.2.1⟩:AF) x.2.2.2.2))
     else
      some (false,x.2.2.2.2)
    else
     CK (x.1,v2.1.thing,v4.1.thing)>>=fun r20 =>
     some (true,(Hh (x.2.1|||x.2.2.1) (⟨r20,r10,x.2.1⟩:AF) x.2.2.2.2))
   else
    some (false,x.2.2.2.2)
  else
   some (false,x.2.2.2.2)
instance ES.w:AH ES (fun x r=>FnB Tryz.prog 27 [(3000000,[.v (.i64 x.2.2.2.1.model.Kind),.v (.slice .foreign (x.2.2.2.1.model.Edges.map AD.av)),.v (.slice .foreign (x.2.2.2.1.model.Stats.Rows.map AV.w)),.v (.slice .foreign (x.2.2.2.1.model.Stats.Sel.map AV.w)),.m 2000001]),(2000001,[.mp (Ev Ga AF.av x.2.2.2.2)])] [.p 3000000,.a (.agg [.i64 x.1.Kind,.slice .foreign (x.1.Edges.map AV.i64),.slice .foreign (x.1.Preds.map AB.av)]),.a (.w x.2.1),.a (.w x.2.2.1)] (.bool r.1) [(3000000,[.v (.i64 x.2.2.2.1.model.Kind),.v (.slice .foreign (x.2.2.2.1.model.Edges.map AD.av)),.v (.slice .foreign (x.2.2.2.1.model.Stats.Rows.map AV.w)),.v (.slice .foreign (x.2.2.2.1.model.Stats.Sel.map AV.w)),.m 2000001]),(2000001,[.mp (Ev Ga AF.av r.2)])]):=⟨by
 intro x r h
 rw[ES] at h
 try dsimp only
 refine FnB.of_lc mix ANZ ALg (by rfl) (by rfl) fun c=>?_
 simp -implicitDefEqProofs only[go_sem,Tryz.f27]
 revert h;refine itE (fun h1 h=>?_) fun h1 h=>?_
 ·try simp -implicitDefEqProofs only[go_sem, *, -h]
  injection h with h;subst h
  first | exact⟨AL,[],by rfl,AL⟩ | exact⟨AL,[],by rfl⟩ | exact⟨AL,[],by(simp -implicitDefEqProofs only[go_sem, *] <;> first | done | rfl | trivial)⟩ | exact⟨[],by rfl,AL⟩ | exact⟨[],by rfl,by(simp -implicitDefEqProofs only[go_sem, *] <;> first | done | rfl | trivial)⟩
 ·try simp -implicitDefEqProofs only[go_sem, *, -h]
  obtain⟨v2,h3,h⟩:=AE h
  refine LLook.map Ga AF.av (es:=x.2.2.2.2) (k:=x.2.1) (z:=((⟨(⟨0,0,[],[],false⟩:AA),0#64,0#64⟩:AF):AF)) h3 MY AL AL (by first | rfl | (first | rfl | simp -implicitDefEqProofs only[go_sem, *] <;> rfl)) ?_
  try simp -implicitDefEqProofs only[go_sem, *, -h]
  obtain⟨v4,h5,h⟩:=AE h
  refine LLook.map Ga AF.av (es:=x.2.2.2.2) (k:=x.2.2.1) (z:=((⟨(⟨0,0,[],[],false⟩:AA),0#64,0#64⟩:AF):AF)) h5 MY AL AL (by first | rfl | (first | rfl | simp -implicitDefEqProofs only[go_sem, *] <;> rfl)) ?_
  try simp -implicitDefEqProofs only[go_sem, *, -h]
  revert h;refine itE (fun h6 h=>?_) fun h6 h=>?_
  ·try simp -implicitDefEqProofs only[go_sem, *, -h]
   revert h;refine itE (fun h7 h=>?_) fun h7 h=>?_
   ·try simp -implicitDefEqProofs only[go_sem, *, -h]
    obtain⟨r8,h9,h⟩:=AE h
    refine .plain _ _ rfl (EU.w.w (x.2.2.2.1.model,x.2.1,x.2.2.1,x.1.Preds) _ h9) ?_
    try simp -implicitDefEqProofs only[go_sem, *, -h]
    obtain⟨r10,h11,h⟩:=AE h
    have hw:=Gz.w.w ([v2.1.costs,v4.1.costs,r8]) _ h11
    simp -implicitDefEqProofs only[go_sem] at hw
    refine .plain _ _ rfl hw ?_
    clear hw
    try simp -implicitDefEqProofs only[go_sem, *, -h]
    obtain⟨v12,h13,h⟩:=AE h
    refine LLook.map Ga AF.av (es:=x.2.2.2.2) (k:=(x.2.1|||x.2.2.1)) (z:=((⟨(⟨0,0,[],[],false⟩:AA),0#64,0#64⟩:AF):AF)) h13 MY AL AL (by first | rfl | (first | rfl | simp -implicitDefEqProofs only[go_sem, *] <;> rfl)) ?_
    try simp -implicitDefEqProofs only[go_sem, *, -h]
    revert h;refine itE (fun h14 h=>?_) fun h14 h=>?_
    ·try simp -implicitDefEqProofs only[go_sem, *, -h]
     obtain⟨r15,h16,h⟩:=AE h
     refine .plain _ _ rfl (DG.w.w ((⟨(⟨0,0,[],[],false⟩:AA),r10,x.2.1⟩:AF),v12.1) _ h16) ?_
     try simp -implicitDefEqProofs only[go_sem, *, -h]
     revert h;refine itE (fun h17 h=>?_) fun h17 h=>?_
     ·try simp -implicitDefEqProofs only[go_sem, *, -h]
      obtain⟨r18,h19,h⟩:=AE h
      refine .plain _ _ rfl (CK.w.w (x.1,v2.1.thing,v4.1.thing) _ h19) ?_
      try simp -implicitDefEqProofs only[go_sem, *, -h]
      refine LMset.map Ga AF.av (es:=x.2.2.2.2) (k:=(x.2.1|||x.2.2.1)) (v:=(⟨r18,r10,x.2.1⟩:AF)) MY AL (by first | rfl | (first | rfl | simp -implicitDefEqProofs only[go_sem, *] <;> rfl)) AL ?_
      try simp -implicitDefEqProofs only[go_sem, *, -h]
      injection h with h;subst h
      first | exact⟨AL,[],by rfl,AL⟩ | exact⟨AL,[],by rfl⟩ | exact⟨AL,[],by(simp -implicitDefEqProofs only[go_sem, *] <;> first | done | rfl | trivial)⟩ | exact⟨[],by rfl,AL⟩ | exact⟨[],by rfl,by(simp -implicitDefEqProofs only[go_sem, *] <;> first | done | rfl | trivial)⟩
     ·try simp -implicitDefEqProofs only[go_sem, *, -h]
      injection h with h;subst h
      first | exact⟨AL,[],by rfl,AL⟩ | exact⟨AL,[],by rfl⟩ | exact⟨AL,[],by(simp -implicitDefEqProofs only[go_sem, *] <;> first | done | rfl | trivial)⟩ | exact⟨[],by rfl,AL⟩ | exact⟨[],by rfl,by(simp -implicitDefEqProofs only[go_sem, *] <;> first | done | rfl | trivial)⟩
    ·try simp -implicitDefEqProofs only[go_sem, *, -h]
     obtain⟨r20,h21,h⟩:=AE h
     refine .plain _ _ rfl (CK.w.w (x.1,v2.1.thing,v4.1.thing) _ h21) ?_
     try simp -implicitDefEqProofs only[go_sem, *, -h]
     refine LMset.map Ga AF.av (es:=x.2.2.2.2) (k:=(x.2.1|||x.2.2.1)) (v:=(⟨r20,r10,x.2.1⟩:AF)) MY AL (by first | rfl | (first | rfl | simp -implicitDefEqProofs only[go_sem, *] <;> rfl)) AL ?_
     try simp -implicitDefEqProofs only[go_sem, *, -h]
     injection h with h;subst h
     first | exact⟨AL,[],by rfl,AL⟩ | exact⟨AL,[],by rfl⟩ | exact⟨AL,[],by(simp -implicitDefEqProofs only[go_sem, *] <;> first | done | rfl | trivial)⟩ | exact⟨[],by rfl,AL⟩ | exact⟨[],by rfl,by(simp -implicitDefEqProofs only[go_sem, *] <;> first | done | rfl | trivial)⟩
   ·try simp -implicitDefEqProofs only[go_sem, *, -h]
    injection h with h;subst h
    first | exact⟨AL,[],by rfl,AL⟩ | exact⟨AL,[],by rfl⟩ | exact⟨AL,[],by(simp -implicitDefEqProofs only[go_sem, *] <;> first | done | rfl | trivial)⟩ | exact⟨[],by rfl,AL⟩ | exact⟨[],by rfl,by(simp -implicitDefEqProofs only[go_sem, *] <;> first | done | rfl | trivial)⟩
  ·try simp -implicitDefEqProofs only[go_sem, *, -h]
   injection h with h;subst h
   first | exact⟨AL,[],by rfl,AL⟩ | exact⟨AL,[],by rfl⟩ | exact⟨AL,[],by(simp -implicitDefEqProofs only[go_sem, *] <;> first | done | rfl | trivial)⟩ | exact⟨[],by rfl,AL⟩ | exact⟨[],by rfl,by(simp -implicitDefEqProofs only[go_sem, *] <;> first | done | rfl | trivial)⟩⟩
end
section
def FB (f:Gx) (t:AA):AF:=⟨t,Be f t,NV t⟩
theorem Xa (c:AW) (x y:AA) (hx:x.size≤1000000) (hy:y.size≤1000000) (hl:c.Preds.length≤1000000) (hp:∀ p∈c.Preds,p.size≤1000000):CK (c,x,y)=some ⟨c.Kind,0,[x,y],c.Preds,false⟩:=by
 have key:∀ (post pre acc:List AB),pre++post=c.Preds→acc.length≤pre.length→CK.l0 (c.Preds,(c.Preds.length:Int),(pre.length:Int),(⟨0,0,[],[],false⟩:AA),(⟨c.Kind,0,[x,y],acc,false⟩:AA))=some ⟨c.Kind,0,[x,y],acc++post,false⟩:=by
  intro post
  induction post with
  | nil=>intro pre acc he _;rw[List.append_nil] at he;rw[CK.l0,if_neg (dge (by dsimp only;rw[← he];omega)),List.append_nil]
  | cons p l ih =>
   intro pre acc he ha
   have hlen:pre.length+(l.length+1)=c.Preds.length:=by rw[← he,List.length_append];rfl
   rw[CK.l0,if_pos (dlt (by dsimp only;omega))]
   dsimp only
   have hg:AX c.Preds (pre.length:Int)=some p:=by rw[← he,Ef]
   rw[hg]
   simp -implicitDefEqProofs only[Option.bind_eq_bind,Option.bind_some]
   rw[ME p (hp p (by rw[← he];simp))]
   simp -implicitDefEqProofs only[Option.bind_some]
   rw[Bp (by simp only[List.length_cons,List.length_nil];omega),AU (by omega)]
   simp -implicitDefEqProofs only[Option.bind_some]
   have:=ih (pre++[p]) (acc++[p]) (by rw[List.append_assoc];exact he) (by rw[CF,CF];omega)
   rw[CF,List.append_assoc] at this
   exact this
 have h0:=key c.Preds [] [] rfl (Nat.le_refl _)
 rw[List.length_nil,show ((0:Nat):Int)=0 from rfl,List.nil_append] at h0
 unfold CK
 dsimp only
 rw[GY x hx,GY y hy]
 simp -implicitDefEqProofs only[Option.bind_eq_bind,Option.bind_some]
 rw[h0];rfl
theorem AGz {m:Ae} {es:List AD} (hm:m.Edges=es) (hE:es.length<9223372036854775808) (c:AW) (a b:AC) (hab:a&&&b=0#64) (mm:List (AC × AF)) (x y:AA) (cx cy kx ky:AC)
  (hx:CP a mm=some ⟨x,cx,kx⟩) (hy:CP b mm=some ⟨y,cy,ky⟩) (hxs:x.size≤1000000) (hys:y.size≤1000000) (hl:c.Preds.length≤1000000) (hp:∀ p∈c.Preds,p.size≤1000000) :
  ∃ told,ES (c,a,b,(⟨m,()⟩:AT),mm)=some (told,(
   let cost:=Cz (cx.toNat+cy.toNat+(Ap m.Kind m.Edges m.Stats a b c.Preds).toNat)
   let new:AF:=⟨⟨c.Kind,0,[x,y],c.Preds,false⟩,cost,a⟩
   match CP (a|||b) mm with
   | none=>Hh (a|||b) new mm
   | some was=>if(decide (cost<was.costs) || (cost == was.costs&&decide (a<was.first)))=true then Hh (a|||b) new mm else mm)):=by
 unfold ES
 dsimp only
 rw[if_neg (by simp[hab]),NY,NY,hx,hy]
 simp -implicitDefEqProofs only[Option.bind_eq_bind,Option.bind_some,if_true]
 rw[Yo m a b c.Preds (by rw[hm];exact hE) (by omega)]
 simp -implicitDefEqProofs only[Option.bind_some]
 rw[Od _ (by simp),NY]
 simp -implicitDefEqProofs only[Option.bind_some]
 have hs:OC [cx,cy,Ap m.Kind m.Edges m.Stats a b c.Preds]=cx.toNat+cy.toNat+(Ap m.Kind m.Edges m.Stats a b c.Preds).toNat:=by unfold OC;simp;omega
 rw[hs,Xa c x y hxs hys hl hp]
 simp -implicitDefEqProofs only[Option.bind_some]
 cases hw:CP (a|||b) mm with
 | none=>exact⟨true,rfl⟩
 | some was =>
  dsimp only
  unfold DG
  dsimp only
  by_cases h1:Cz (cx.toNat+cy.toNat+(Ap m.Kind m.Edges m.Stats a b c.Preds).toNat)<was.costs
  ·refine⟨true,?_⟩
   simp[h1]
  ·by_cases h2:Cz (cx.toNat+cy.toNat+(Ap m.Kind m.Edges m.Stats a b c.Preds).toNat)=was.costs
   ·by_cases h3:a<was.first
    ·refine⟨true,?_⟩
     simp[h1,h2,h3]
    ·refine⟨false,?_⟩
     simp[h1,h2,h3]
   ·refine⟨false,?_⟩
    simp[h1,h2]
end
section
open Classical
theorem RB {i:Int} (hr:0≤i∧i<64):Fr (Cw i)=i∧Al (Cw i)=1:=by
 have hb:∀ n,AY (Cw i) n=true ↔ n=i:=fun n=>by
  rw[Ib];simp
  constructor
  ·rintro⟨_,h⟩;exact h.symm
  ·rintro rfl;exact⟨hr,rfl⟩
 have h1:=Kj (Cw i)
 have h2:∀ n,n∈Bf (Cw i) ↔ n=i:=fun n=>(IG _ n).trans (hb n)
 have hm:Bf (Cw i)=[i]:=by
  cases hl:Bf (Cw i) with
  | nil=>have:=(h2 i).2 rfl;rw[hl] at this;cases this
  | cons p l =>
   have hp:=(h2 p).1 (by rw[hl];exact List.mem_cons_self)
   subst hp
   cases l with
   | nil=>rfl
   | cons q l =>
    have hq:=(h2 q).1 (by rw[hl];simp)
    rw[hl] at h1
    have:=(List.pairwise_cons.1 h1).1 q (by simp)
    omega
 exact⟨by unfold Fr;rw[hm],by unfold Al;rw[hm];rfl⟩
theorem AKU (is:List Int) (hr:∀ i∈is,0≤i∧i<64) (hl:is.length≤64) (mo:AT):∀ (post pre:List Int) (mm:List (AC × AF)),pre++post=is→(∀ s,CP s mm=if ∃ i∈pre,s=Cw i then some ⟨FI (Fr s),0#64,0#64⟩ else none) →
  ∃ mm',CU.l0 (is,(is.length:Int),(pre.length:Int),mm,mo)=some mm'∧∀ s,CP s mm'=if ∃ i∈is,s=Cw i then some ⟨FI (Fr s),0#64,0#64⟩ else none:=by
 intro post
 induction post generalizing mo with
 | nil=>intro pre mm he hm;rw[List.append_nil] at he;subst he;rw[CU.l0,if_neg (dge (by dsimp only;omega))];exact⟨mm,rfl,hm⟩
 | cons i l ih =>
  intro pre mm he hm
  have hlen:pre.length+(l.length+1)=is.length:=by rw[← he,List.length_append];rfl
  have hi:=hr i (by rw[← he];simp)
  rw[CU.l0,if_pos (dlt (by dsimp only;omega))]
  dsimp only
  have hg:AX is (pre.length:Int)=some i:=by rw[← he,Ef]
  rw[hg]
  simp -implicitDefEqProofs only[Option.bind_eq_bind,Option.bind_some]
  rw[Ul [i] (by simp),Gd,Hy,BitVec.or_zero]
  simp -implicitDefEqProofs only[Option.bind_some]
  rw[AU (by omega)]
  have h0:=ih (⟨mo.model,()⟩:AT) (pre++[i]) (Hh (Cw i) ⟨FI i,0#64,0#64⟩ mm) (by rw[List.append_assoc];exact he) (fun s=>by
   rw[Wy,hm s]
   by_cases h:s=Cw i
   ·rw[if_pos h,if_pos ⟨i,by simp,h⟩,h,(RB hi).1]
   ·rw[if_neg h]
    by_cases h2:∃ j∈pre,s=Cw j
    ·rw[if_pos h2,if_pos]
     obtain⟨j,hj,e⟩:=h2
     exact⟨j,List.mem_append_left _ hj,e⟩
    ·rw[if_neg h2,if_neg]
     rintro⟨j,hj,e⟩
     rcases List.mem_append.1 hj with hj | hj
     ·exact h2 ⟨j,hj,e⟩
     ·rw[List.mem_singleton] at hj;subst hj;exact h e)
  rw[CF] at h0
  exact h0
theorem AAC (m:Ae) (all:AC) (hl:CT all=some (Bf all)):∃ mm,CU (m,all)=some (mm,(⟨m,()⟩:AT))∧∀ s,CP s mm=if ∃ i∈Bf all,s=Cw i then some ⟨FI (Fr s),0#64,0#64⟩ else none:=by
 have hml:=AAp all
 obtain⟨mm,h1,h2⟩:=AKU (Bf all) (GI all) hml (⟨m,()⟩:AT) (Bf all) [] [] rfl (fun s=>by
  rw[if_neg]
  ·rfl
  ·rintro⟨i,hi,_⟩;cases hi)
 rw[List.length_nil,show ((0:Nat):Int)=0 from rfl] at h1
 unfold CU
 dsimp only
 rw[hl]
 simp -implicitDefEqProofs only[Option.bind_eq_bind,Option.bind_some]
 rw[h1]
 exact⟨mm,rfl,h2⟩
end
section
open Classical
theorem AKh:Al (0#64:AC)=0:=by
 unfold Al
 cases hm:Bf (0#64:AC) with
 | nil=>rfl
 | cons p l =>
  have:=(IG 0#64 p).1 (by rw[hm];exact List.mem_cons_self)
  rw[HA] at this;cases this
theorem Mx {s all:AC} (h:inS s all=true) (hc:Al s=1):Fr s∈Bf all∧s=Cw (Fr s):=by
 obtain⟨e1,e2,e3⟩:=XH hc
 refine⟨(IG all _).2 ((DB s all).1 h _ ?_),e1⟩
 have hh:∀ i,s=Cw i→0≤i→i<64→AY s i=true:=fun i h1 h2 h3=>by rw[h1,Ib];simp[h2,h3]
 exact hh _ e1 e2 e3
end
section
theorem ALw:okF Tryz.f60=true:=by kernel_rfl
@[go_sem] theorem ANn:lrp Tryz.prog 19 18=(3,[2]):=by kernel_rfl
theorem ALs:okF Tryz.f19=true:=by kernel_rfl
def EN (x:AC × AT × (List (AC × AF))):Option (Bool) :=
 Dj (x.1,(⟨x.2.1.model,()⟩:AT),x.2.2)>>=fun r1 =>
 some r1.2.2
instance EN.w:AH EN (fun x r=>FnB Tryz.prog 60 [(3000000,[.p 3000001]),(3000001,[.v (.i64 x.2.1.model.Kind),.v (.slice .foreign (x.2.1.model.Edges.map AD.av)),.v (.slice .foreign (x.2.1.model.Stats.Rows.map AV.w)),.v (.slice .foreign (x.2.1.model.Stats.Sel.map AV.w)),.m 3000002]),(3000002,[.mp (Ev Ga AF.av x.2.2)])] [.a (.w x.1),.p 3000000] (.bool r) [(3000000,[.p 3000001]),(3000001,[.v (.i64 x.2.1.model.Kind),.v (.slice .foreign (x.2.1.model.Edges.map AD.av)),.v (.slice .foreign (x.2.1.model.Stats.Rows.map AV.w)),.v (.slice .foreign (x.2.1.model.Stats.Sel.map AV.w)),.m 3000002]),(3000002,[.mp (Ev Ga AF.av x.2.2)])]):=⟨by
 intro x r h
 rw[EN] at h
 try dsimp only
 refine FnB.of_lc mix AMo ALw (by rfl) (by rfl) fun c=>?_
 simp -implicitDefEqProofs only[go_sem,Tryz.f60]
 obtain⟨r1,h2,h⟩:=AE h
 have hw:=Dj.w.w (x.1,(⟨x.2.1.model,()⟩:AT),x.2.2) _ h2
 refine .vars [] [(3000000,3000001),(3000001,3000002)] _ _ _ _ hw AL (by rfl) (by rfl) (by rfl) (by rfl) AL AL AL ?_
 clear hw
 try simp -implicitDefEqProofs only[go_sem]
 injection h with h;subst h
 first | exact⟨AL,[],by rfl,AL⟩ | exact⟨AL,[],by rfl⟩ | exact⟨AL,[],by(simp -implicitDefEqProofs only[go_sem] <;> first | done | rfl | trivial)⟩ | exact⟨[],by rfl,AL⟩ | exact⟨[],by rfl,by(simp -implicitDefEqProofs only[go_sem] <;> first | done | rfl | trivial)⟩⟩
def Am.r2 (x:(List (AC × AC)) × Ae × Int × (List (AC × AF)) × AT):Option (Int × (List (AC × AF)) × AT) :=
 match x.1 with
 | []=>some (x.2.2.1,x.2.2.2.1,x.2.2.2.2)
 | e14 :: l15 =>
  Ay (x.2.1.Edges,e14.1,e14.2)>>=fun r16 =>
  if r16.2=true then
   EN (e14.1,(⟨x.2.2.2.2.model,()⟩:AT),x.2.2.2.1)>>=fun r19 =>
   if r19=true then
    EN (e14.2,(⟨x.2.2.2.2.model,()⟩:AT),x.2.2.2.1)>>=fun r22 =>
    if r22=true then
     ES (r16.1,e14.1,e14.2,(⟨x.2.2.2.2.model,()⟩:AT),x.2.2.2.1)>>=fun r25 =>
     Am.r2 (l15,x.2.1,(w64 (x.2.2.1+1)),r25.2,(⟨x.2.2.2.2.model,()⟩:AT))
    else
     Am.r2 (l15,x.2.1,x.2.2.1,x.2.2.2.1,(⟨x.2.2.2.2.model,()⟩:AT))
   else
    Am.r2 (l15,x.2.1,x.2.2.1,x.2.2.2.1,(⟨x.2.2.2.2.model,()⟩:AT))
  else
   Am.r2 (l15,x.2.1,x.2.2.1,x.2.2.2.1,(⟨x.2.2.2.2.model,()⟩:AT))
 partial_fixpoint
theorem Am.r2.ws:PC Am.r2 (fun x o=>∀ (Fin:Exit→List (Nat × List CV)→Prop) (hb:∀ (s:Int × (List (AC × AF)) × AT),o=s→Fin .normal [(2100002,[.v (.i64 x.2.1.Kind),.v (.slice .foreign (x.2.1.Edges.map AD.av)),.v (.slice .foreign (x.2.1.Stats.Rows.map AV.w)),.v (.slice .foreign (x.2.1.Stats.Sel.map AV.w))]),(2100008,[.p 2150113]),(2100009,[.fn 27 [.p 2150113] []]),(2100010,[.fn 60 [] [.p 2100008]]),(2100011,[.v (.i64 s.1)]),(2150112,[.mp (Ev Ga AF.av s.2.1)]),(2150113,[.v (.i64 s.2.2.model.Kind),.v (.slice .foreign (s.2.2.model.Edges.map AD.av)),.v (.slice .foreign (s.2.2.model.Stats.Rows.map AV.w)),.v (.slice .foreign (s.2.2.model.Stats.Sel.map AV.w)),.m 2150112])]),HM Tryz.prog 19 Tryz.f19 2 3 #[37,38] [(2,.lref 2100002 0),(9,.lref 2100009 0),(10,.lref 2100010 0),(11,.lref 2100011 0)] Fin (x.1.map (fun (y:AC × AC)=>[.w y.1,.w y.2])) [(2100002,[.v (.i64 x.2.1.Kind),.v (.slice .foreign (x.2.1.Edges.map AD.av)),.v (.slice .foreign (x.2.1.Stats.Rows.map AV.w)),.v (.slice .foreign (x.2.1.Stats.Sel.map AV.w))]),(2100008,[.p 2150113]),(2100009,[.fn 27 [.p 2150113] []]),(2100010,[.fn 60 [] [.p 2100008]]),(2100011,[.v (.i64 x.2.2.1)]),(2150112,[.mp (Ev Ga AF.av x.2.2.2.1)]),(2150113,[.v (.i64 x.2.2.2.2.model.Kind),.v (.slice .foreign (x.2.2.2.2.model.Edges.map AD.av)),.v (.slice .foreign (x.2.2.2.2.model.Stats.Rows.map AV.w)),.v (.slice .foreign (x.2.2.2.2.model.Stats.Sel.map AV.w)),.m 2150112])]):=by
 refine Am.r2.partial_correctness _ ?_
 ·intro AFB Gv x o h
  intro Fin hb
  generalize hx1:x.1=ys at h ⊢
  cases ys with
  | nil=>injection h with h;subst h;exact HM.nil (hb _ rfl)
  | cons e14 l15 =>
   refine HM.cons rfl fun l0 c1 hlo1=>?_
   dsimp only at h
   simp -implicitDefEqProofs only[go_sem,Tryz.f19]
   refine Qd.mk (by rfl) fun c2 hlo2=>?_
   simp -implicitDefEqProofs only[go_sem,Tryz.f19]
   obtain⟨r16,h17,h⟩:=AE h
   refine .plain _ _ rfl (Ay.w.w (x.2.1.Edges,e14.1,e14.2) _ h17) ?_
   try simp -implicitDefEqProofs only[go_sem]
   revert h;refine itE (fun h18 h=>?_) fun h18 h=>?_
   ·try simp -implicitDefEqProofs only[go_sem, *, -h]
    obtain⟨r19,h20,h⟩:=AE h
    have hw:=EN.w.w (e14.1,(⟨x.2.2.2.2.model,()⟩:AT),x.2.2.2.1) _ h20
    refine .vars [] [(3000000,2100008),(3000001,2150113),(3000002,2150112)] _ _ _ _ hw AL (by rfl) (by rfl) (by rfl) (by rfl) AL AL AL ?_
    clear hw
    try simp -implicitDefEqProofs only[go_sem, *, -h]
    revert h;refine itE (fun h21 h=>?_) fun h21 h=>?_
    ·try simp -implicitDefEqProofs only[go_sem, *, -h]
     obtain⟨r22,h23,h⟩:=AE h
     have hw:=EN.w.w (e14.2,(⟨x.2.2.2.2.model,()⟩:AT),x.2.2.2.1) _ h23
     refine .vars [] [(3000000,2100008),(3000001,2150113),(3000002,2150112)] _ _ _ _ hw AL (by rfl) (by rfl) (by rfl) (by rfl) AL AL AL ?_
     clear hw
     try simp -implicitDefEqProofs only[go_sem, *, -h]
     revert h;refine itE (fun h24 h=>?_) fun h24 h=>?_
     ·try simp -implicitDefEqProofs only[go_sem, *, -h]
      obtain⟨r25,h26,h⟩:=AE h
      have hw:=ES.w.w (r16.1,e14.1,e14.2,(⟨x.2.2.2.2.model,()⟩:AT),x.2.2.2.1) _ h26
      refine .vars [] [(3000000,2150113),(2000001,2150112)] _ _ _ _ hw AL (by rfl) (by rfl) (by rfl) (by rfl) AL AL AL ?_
      clear hw
      try simp -implicitDefEqProofs only[go_sem, *, -h]
      exact LN.next [] (by rfl) AL (by rfl) (Gv (l15,x.2.1,(w64 (x.2.2.1+1)),r25.2,(⟨x.2.2.2.2.model,()⟩:AT)) _ h Fin hb)
     ·try simp -implicitDefEqProofs only[go_sem, *, -h]
      exact LN.next [] (by rfl) AL (by rfl) (Gv (l15,x.2.1,x.2.2.1,x.2.2.2.1,(⟨x.2.2.2.2.model,()⟩:AT)) _ h Fin hb)
    ·try simp -implicitDefEqProofs only[go_sem, *, -h]
     exact LN.next [] (by rfl) AL (by rfl) (Gv (l15,x.2.1,x.2.2.1,x.2.2.2.1,(⟨x.2.2.2.2.model,()⟩:AT)) _ h Fin hb)
   ·try simp -implicitDefEqProofs only[go_sem, *, -h]
    exact LN.next [] (by rfl) AL (by rfl) (Gv (l15,x.2.1,x.2.2.1,x.2.2.2.1,(⟨x.2.2.2.2.model,()⟩:AT)) _ h Fin hb)
instance Am.r2.w:type_of% (AH.mk Am.r2.ws):=⟨Am.r2.ws⟩
def Am.r0 (x:List AC × Ae × Int × (List (AC × AF)) × AT):Option (Int × (List (AC × AF)) × AT) :=
 match x.1 with
 | []=>some (x.2.2.1,x.2.2.2.1,x.2.2.2.2)
 | e10 :: l11 =>
  GP e10>>=fun l12 =>
  Am.r2 (l12,x.2.1,x.2.2.1,x.2.2.2.1,(⟨x.2.2.2.2.model,()⟩:AT))>>=fun (s29:Int × (List (AC × AF)) × AT) =>
  Am.r0 (l11,x.2.1,s29.1,s29.2.1,(⟨s29.2.2.model,()⟩:AT))
 partial_fixpoint
theorem Am.r0.ws:PC Am.r0 (fun x o=>∀ (Fin:Exit→List (Nat × List CV)→Prop) (hb:∀ (s:Int × (List (AC × AF)) × AT),o=s→Fin .normal [(2100002,[.v (.i64 x.2.1.Kind),.v (.slice .foreign (x.2.1.Edges.map AD.av)),.v (.slice .foreign (x.2.1.Stats.Rows.map AV.w)),.v (.slice .foreign (x.2.1.Stats.Sel.map AV.w))]),(2100008,[.p 2150113]),(2100009,[.fn 27 [.p 2150113] []]),(2100010,[.fn 60 [] [.p 2100008]]),(2100011,[.v (.i64 s.1)]),(2150112,[.mp (Ev Ga AF.av s.2.1)]),(2150113,[.v (.i64 s.2.2.model.Kind),.v (.slice .foreign (s.2.2.model.Edges.map AD.av)),.v (.slice .foreign (s.2.2.model.Stats.Rows.map AV.w)),.v (.slice .foreign (s.2.2.model.Stats.Sel.map AV.w)),.m 2150112])]),HM Tryz.prog 19 Tryz.f19 0 1 #[34] [(2,.lref 2100002 0),(9,.lref 2100009 0),(10,.lref 2100010 0),(11,.lref 2100011 0)] Fin (x.1.map (fun (y:AC)=>[.w y])) [(2100002,[.v (.i64 x.2.1.Kind),.v (.slice .foreign (x.2.1.Edges.map AD.av)),.v (.slice .foreign (x.2.1.Stats.Rows.map AV.w)),.v (.slice .foreign (x.2.1.Stats.Sel.map AV.w))]),(2100008,[.p 2150113]),(2100009,[.fn 27 [.p 2150113] []]),(2100010,[.fn 60 [] [.p 2100008]]),(2100011,[.v (.i64 x.2.2.1)]),(2150112,[.mp (Ev Ga AF.av x.2.2.2.1)]),(2150113,[.v (.i64 x.2.2.2.2.model.Kind),.v (.slice .foreign (x.2.2.2.2.model.Edges.map AD.av)),.v (.slice .foreign (x.2.2.2.2.model.Stats.Rows.map AV.w)),.v (.slice .foreign (x.2.2.2.2.model.Stats.Sel.map AV.w)),.m 2150112])]):=by
 refine Am.r0.partial_correctness _ ?_
 ·intro AFD Pc x o h
  intro Fin hb
  generalize hx1:x.1=ys at h ⊢
  cases ys with
  | nil=>injection h with h;subst h;exact HM.nil (hb _ rfl)
  | cons e10 l11 =>
   refine HM.cons rfl fun l0 c1 hlo1=>?_
   dsimp only at h
   simp -implicitDefEqProofs only[go_sem,Tryz.f19]
   refine Qd.mk (by rfl) fun c2 hlo2=>?_
   simp -implicitDefEqProofs only[go_sem,Tryz.f19]
   obtain⟨l12,h13,h⟩:=AE h
   refine .iter _ _ rfl (GP.w e10 _ h13) ?_
   try simp -implicitDefEqProofs only[go_sem]
   obtain⟨s29,h28,h⟩:=AE h
   refine Ku.iter mix AB9 hlo2 (by kernel_rfl) (by kernel_rfl) (by rfl) rfl [] [] (by rfl) (by rfl) AL AL (Am.r2.w.w (l12,x.2.1,x.2.2.1,x.2.2.2.1,(⟨x.2.2.2.2.model,()⟩:AT)) _ h28 _ ?_)
   intro s0 hs';subst hs'
   try simp -implicitDefEqProofs only[go_sem]
   exact LN.next [] (by rfl) AL (by rfl) (Pc (l11,x.2.1,s29.1,s29.2.1,(⟨s29.2.2.model,()⟩:AT)) _ h Fin hb)
instance Am.r0.w:type_of% (AH.mk Am.r0.ws):=⟨Am.r0.ws⟩
def Am (x:Ae × AA):Option (AA × AC × Int) :=
 CA x.2>>=fun r1 =>
 Gb r1>>=fun r3 =>
 if(decide (r3 > 12))=true then
  some ((⟨0,0,[],[],false⟩:AA),0#64,0)
 else
  CU (x.1,r1)>>=fun r6 =>
  Ey r1>>=fun l8 =>
  Am.r0 (l8,x.1,0,r6.1,(⟨r6.2.model,()⟩:AT))>>=fun (s32:Int × (List (AC × AF)) × AT) =>
  Dj (r1,(⟨s32.2.2.model,()⟩:AT),s32.2.1)>>=fun r33 =>
  some (r33.1,r33.2.1,s32.1)
instance Am.w:AH Am (fun x r=>Fn Tryz.prog 19 [.agg (Ae.C x.1),.agg (AA.C x.2)] (.tuple [.agg (AA.C r.1),.w r.2.1,.i64 r.2.2])):=⟨by
 intro x r h
 rw[Am] at h
 try dsimp only
 refine Fn.of_lc mix AB9 ALs (by rfl) (flC (Ae.flatC _) (flC (AA.flatC _) (flN))) (.tuple _ (flC (AA.flatC _) (flC (.atom _) (flC (.atom _) (flN))))) ?_
 simp -implicitDefEqProofs only[go_sem,Tryz.f19]
 obtain⟨r1,h2,h⟩:=AE h
 refine .plain _ _ rfl (CA.w.w x.2 _ h2) ?_
 try simp -implicitDefEqProofs only[go_sem]
 obtain⟨r3,h4,h⟩:=AE h
 refine .plain _ _ rfl (Gb.w.w r1 _ h4) ?_
 try simp -implicitDefEqProofs only[go_sem]
 revert h;refine itE (fun h5 h=>?_) fun h5 h=>?_
 ·try simp -implicitDefEqProofs only[go_sem, *, -h]
  injection h with h;subst h
  exact AL
 ·try simp -implicitDefEqProofs only[go_sem, *, -h]
  obtain⟨r6,h7,h⟩:=AE h
  have hw:=CU.w.w (x.1,r1) _ h7
  try simp -implicitDefEqProofs only[go_sem] at hw
  refine Nv.newOf [(9,50112),(11,50113)] (.lref 50113 0) hw AL (by first | rfl | (first | rfl | simp -implicitDefEqProofs only[go_sem, *] <;> rfl)) (by rfl) ?_
  clear hw
  simp -implicitDefEqProofs only[go_sem]
  try simp -implicitDefEqProofs only[go_sem, *, -h]
  obtain⟨l8,h9,h⟩:=AE h
  refine .iter _ _ rfl (Ey.w r1 _ h9) ?_
  try simp -implicitDefEqProofs only[go_sem, *, -h]
  obtain⟨s32,h31,h⟩:=AE h
  refine Ku.iter mix AB9 (LO.none _) (by kernel_rfl) (by kernel_rfl) (by rfl) rfl [] [(2100002,2),(2100008,8),(2100009,9),(2100010,10),(2100011,11),(2150112,50112),(2150113,50113)] (by rfl) (by rfl) AL AL (Am.r0.w.w (l8,x.1,0,r6.1,(⟨r6.2.model,()⟩:AT)) _ h31 _ ?_)
  intro s0 hs';subst hs'
  try simp -implicitDefEqProofs only[go_sem, *, -h]
  obtain⟨r33,h34,h⟩:=AE h
  have hw:=Dj.w.w (r1,(⟨s32.2.2.model,()⟩:AT),s32.2.1) _ h34
  refine .vars [] [(3000000,50113),(3000001,50112)] _ _ _ _ hw AL (by rfl) (by rfl) (by rfl) (by rfl) AL AL AL ?_
  clear hw
  try simp -implicitDefEqProofs only[go_sem, *, -h]
  injection h with h;subst h
  exact AL⟩
end
section
open Classical
theorem Uw {s a:AC} (h:a∈DT s):s&&&~~~a∈DT s:=by
 obtain⟨k1,k2,k3⟩:=El h
 obtain⟨h1,h2,h3⟩:=(Ee s a).1 h
 refine(Ee s _).2 ⟨fun e=>?_,ALn a s,fun e=>?_⟩
 ·rw[e,AKh] at k3;omega
 ·rw[e] at k1;omega
def okC (es:List AD) (D:AC→Option AA) (s a:AC):Bool:=DD es a (s&&&~~~a)&&((D a).isSome&&(D (s&&&~~~a)).isSome)
theorem Sf (a:AC) (mo:AT) (mm:List (AC × AF)) (h:∀ e,CP a mm=some e→e.thing.size≤1000000):EN (a,mo,mm)=some (CP a mm).isSome:=by
 unfold EN Dj
 dsimp only
 rw[NY]
 simp -implicitDefEqProofs only[Option.bind_eq_bind,Option.bind_some]
 cases hg:CP a mm with
 | none =>
  dsimp only
  rw[GY _ (by rw[show (⟨0,0,[],[],false⟩:AA).size=1 by rw[EE];rfl];omega)]
  rfl
 | some e =>
  dsimp only
  rw[GY _ (h e hg)]
  rfl
theorem AGV {m:Ae} (w:Gp m.Edges) (s:AC) (D:AC→Option AA)
  (hDs:∀ a∈DT s,∀ t,D a=some t→t.size≤100000∧AS t=a) (hP:∀ a b,(DJ m.Edges (Bs m.Edges a b)).length≤1000000∧∀ p∈DJ m.Edges (Bs m.Edges a b),p.size≤1000000):∀ (post pre:List AC) (acc:Option AA) (c:Nat) (mm:List (AC × AF)) (mo:AT),mo.model=m→pre++post=DT s→c+post.length≤1000000 →
  (∀ a∈DT s,∃ k,CP a mm=(D a).map fun t=>⟨t,Be (Ap m.Kind m.Edges m.Stats) t,k⟩) →
  (CP s mm=acc.map (FB (Ap m.Kind m.Edges m.Stats))) →
  ∃ mm',Am.r2 (post.map (fun a=>(a,s&&&~~~a)),m,(c:Int),mm,mo)=some (((c+(post.filter (okC m.Edges D s)).length:Nat):Int),mm',(⟨m,()⟩:AT))∧(∀ q,q≠s→CP q mm'=CP q mm) ∧
   CP s mm'=((post.map fun a=>Fj m.Edges a (s&&&~~~a) (D a) (D (s&&&~~~a))).foldl (IE (Ap m.Kind m.Edges m.Stats)) acc).map (FB (Ap m.Kind m.Edges m.Stats)):=by
 intro post
 induction post with
 | nil =>
  intro pre acc c mm mo hmo he hcc h2 h3
  rw[List.map_nil,Am.r2]
  exact⟨mm,by rw[← hmo];rfl,fun q _=>rfl,h3⟩
 | cons a l ih =>
  intro pre acc c mm mo hmo he hcc h2 h3
  have ham:a∈DT s:=by rw[← he];simp
  have hbm:=Uw ham
  obtain⟨hc1,hc2,hc3⟩:=El ham
  obtain⟨ha0,hin,hne⟩:=(Ee s a).1 ham
  have hor:a|||(s&&&~~~a)=s:=VB hin
  have hand:a&&&(s&&&~~~a)=0#64:=by
   refine(HH _).2 fun n=>?_
   rw[Mo,Je]
   cases AY a n <;> simp
  have hmo2:(⟨mo.model,()⟩:AT)=⟨m,()⟩:=by rw[hmo]
  obtain⟨ka,hka⟩:=h2 a ham
  obtain⟨kb,hkb⟩:=h2 _ hbm
  have szA:∀ e,CP a mm=some e→e.thing.size≤1000000:=fun e he=>by
   rw[hka] at he
   obtain⟨t,h4,h5⟩:=Cr he
   subst h5
   have:=(hDs a ham t h4).1
   dsimp only;omega
  have szB:∀ e,CP (s&&&~~~a) mm=some e→e.thing.size≤1000000:=fun e he=>by
   rw[hkb] at he
   obtain⟨t,h4,h5⟩:=Cr he
   subst h5
   have:=(hDs _ hbm t h4).1
   dsimp only;omega
  rw[List.map_cons,Am.r2]
  dsimp only
  rw[XK w]
  simp -implicitDefEqProofs only[Option.bind_eq_bind,Option.bind_some]
  rw[hmo2,List.map_cons,List.foldl_cons]
  rw[List.length_cons] at hcc
  have next:∀ (acc':Option AA) (c':Nat) (mm2:List (AC × AF)),c'≤c+1→(∀ q,q≠s→CP q mm2=CP q mm)→CP s mm2=acc'.map (FB (Ap m.Kind m.Edges m.Stats)) →
    ∃ mm',Am.r2 (l.map (fun a=>(a,s&&&~~~a)),m,(c':Int),mm2,(⟨m,()⟩:AT))=some (((c'+(l.filter (okC m.Edges D s)).length:Nat):Int),mm',(⟨m,()⟩:AT))∧(∀ q,q≠s→CP q mm'=CP q mm) ∧
     CP s mm'=((l.map fun a=>Fj m.Edges a (s&&&~~~a) (D a) (D (s&&&~~~a))).foldl (IE (Ap m.Kind m.Edges m.Stats)) acc').map (FB (Ap m.Kind m.Edges m.Stats)):=fun acc' c' mm2 g0 g2 g3=>by
   obtain⟨mm',k1,k2,k3⟩:=ih (pre++[a]) acc' c' mm2 (⟨m,()⟩:AT) rfl (by rw[List.append_assoc];exact he) (by omega) (fun q hq=>by
     have hqs:q≠s:=((Ee s q).1 hq).2.2
     rw[g2 q hqs];exact h2 q hq) g3
   exact⟨mm',k1,fun q hq=>by rw[k2 q hq,g2 q hq],k3⟩
  have skip:okC m.Edges D s a=false→Fj m.Edges a (s&&&~~~a) (D a) (D (s&&&~~~a))=none→∃ mm',Am.r2 (l.map (fun a=>(a,s&&&~~~a)),m,(c:Int),mm,(⟨m,()⟩:AT))=some (((c+((a :: l).filter (okC m.Edges D s)).length:Nat):Int),mm',(⟨m,()⟩:AT))∧(∀ q,q≠s→CP q mm'=CP q mm) ∧
     CP s mm'=((l.map fun a=>Fj m.Edges a (s&&&~~~a) (D a) (D (s&&&~~~a))).foldl (IE (Ap m.Kind m.Edges m.Stats)) (IE (Ap m.Kind m.Edges m.Stats) acc (Fj m.Edges a (s&&&~~~a) (D a) (D (s&&&~~~a))))).map (FB (Ap m.Kind m.Edges m.Stats)):=fun g1 g2=>by
   rw[List.filter_cons,g1,g2]
   exact next acc c mm (by omega) (fun q _=>rfl) h3
  cases hj:DD m.Edges a (s&&&~~~a)
  ·simp only[Bool.false_eq_true,if_false]
   exact skip (by unfold okC;rw[hj];rfl) (by unfold Fj;rw[hj];rfl)
  ·simp only[if_true]
   rw[Sf a _ mm szA]
   simp -implicitDefEqProofs only[Option.bind_some]
   cases hD:D a with
   | none =>
    have hk2:CP a mm=none:=by rw[hka,hD];rfl
    rw[hk2]
    simp only[Option.isSome_none,Bool.false_eq_true,if_false]
    have:=skip (by unfold okC;rw[hD];simp) (by unfold Fj;rw[hj,hD];rfl)
    rw[hD] at this
    exact this
   | some d =>
    rw[hD] at hka
    have hk2:CP a mm=some ⟨d,Be (Ap m.Kind m.Edges m.Stats) d,ka⟩:=hka
    rw[hk2]
    simp only[Option.isSome_some,if_true]
    rw[Sf (s&&&~~~a) _ mm szB]
    simp -implicitDefEqProofs only[Option.bind_some]
    cases hE:D (s&&&~~~a) with
    | none =>
     have hk3:CP (s&&&~~~a) mm=none:=by rw[hkb,hE];rfl
     rw[hk3]
     simp only[Option.isSome_none,Bool.false_eq_true,if_false]
     have:=skip (by unfold okC;rw[hE];simp) (by unfold Fj;rw[hj,hD,hE];rfl)
     rw[hD,hE] at this
     exact this
    | some e =>
     rw[hE] at hkb
     have hk3:CP (s&&&~~~a) mm=some ⟨e,Be (Ap m.Kind m.Edges m.Stats) e,kb⟩:=hkb
     rw[hk3]
     simp only[Option.isSome_some,if_true]
     obtain⟨hds,hdt⟩:=hDs a ham d hD
     obtain⟨hes,het⟩:=hDs _ hbm e hE
     obtain⟨told,ho⟩:=AGz (m:=m) (es:=m.Edges) rfl (by have:=w.len;omega) (NG m.Edges a (s&&&~~~a)) a (s&&&~~~a) hand mm d e (Be (Ap m.Kind m.Edges m.Stats) d) (Be (Ap m.Kind m.Edges m.Stats) e) ka kb hk2 hk3 (by omega) (by omega) (hP _ _).1 (hP _ _).2
     rw[ho]
     simp -implicitDefEqProofs only[Option.bind_some]
     rw[hor]
     have hd:Fj m.Edges a (s&&&~~~a) (some d) (some e)=some (DA m.Edges a (s&&&~~~a) d e):=by unfold Fj;rw[hj];rfl
     have hok:okC m.Edges D s a=true:=by unfold okC;rw[hj,hD,hE];rfl
     rw[hd,List.filter_cons,hok,if_pos rfl,List.length_cons,show c+((l.filter (okC m.Edges D s)).length+1)=(c+1)+(l.filter (okC m.Edges D s)).length by omega,AU (by omega)]
     have hcost:Be (Ap m.Kind m.Edges m.Stats) (DA m.Edges a (s&&&~~~a) d e)=Cz ((Be (Ap m.Kind m.Edges m.Stats) d).toNat+(Be (Ap m.Kind m.Edges m.Stats) e).toNat+(Ap m.Kind m.Edges m.Stats a (s&&&~~~a) (NG m.Edges a (s&&&~~~a)).Preds).toNat):=by
      rw[Mq (Ap m.Kind m.Edges m.Stats) (t:=DA m.Edges a (s&&&~~~a) d e) (x:=d) (y:=e) rfl,hdt,het]
      rfl
     have hent:(⟨⟨(NG m.Edges a (s&&&~~~a)).Kind,0,[d,e],(NG m.Edges a (s&&&~~~a)).Preds,false⟩,Cz ((Be (Ap m.Kind m.Edges m.Stats) d).toNat+(Be (Ap m.Kind m.Edges m.Stats) e).toNat+(Ap m.Kind m.Edges m.Stats a (s&&&~~~a) (NG m.Edges a (s&&&~~~a)).Preds).toNat),a⟩:AF)=FB (Ap m.Kind m.Edges m.Stats) (DA m.Edges a (s&&&~~~a) d e):=by
      unfold FB
      rw[hcost,Ly (t:=DA m.Edges a (s&&&~~~a) d e) (a:=d) (b:=e) rfl,hdt]
      rfl
     try dsimp only
     rw[hent,h3]
     have put:∀ q,CP q (Hh s (FB (Ap m.Kind m.Edges m.Stats) (DA m.Edges a (s&&&~~~a) d e)) mm)=if q=s then some (FB (Ap m.Kind m.Edges m.Stats) (DA m.Edges a (s&&&~~~a) d e)) else CP q mm:=fun q=>Wy q s _ mm
     cases acc with
     | none =>
      simp only[Option.map_none]
      exact next _ (c+1) _ (by omega) (fun q hq=>by rw[put,if_neg hq]) (by rw[put,if_pos rfl];rfl)
     | some u =>
      dsimp only[Option.map_some]
      have hb:(decide (Cz ((Be (Ap m.Kind m.Edges m.Stats) d).toNat+(Be (Ap m.Kind m.Edges m.Stats) e).toNat+(Ap m.Kind m.Edges m.Stats a (s&&&~~~a) (NG m.Edges a (s&&&~~~a)).Preds).toNat)<(FB (Ap m.Kind m.Edges m.Stats) u).costs) || (Cz ((Be (Ap m.Kind m.Edges m.Stats) d).toNat+(Be (Ap m.Kind m.Edges m.Stats) e).toNat+(Ap m.Kind m.Edges m.Stats a (s&&&~~~a) (NG m.Edges a (s&&&~~~a)).Preds).toNat) == (FB (Ap m.Kind m.Edges m.Stats) u).costs&&decide (a<(FB (Ap m.Kind m.Edges m.Stats) u).first)))=Et (Ap m.Kind m.Edges m.Stats) (DA m.Edges a (s&&&~~~a) d e) u:=by
       rw[← hcost]
       unfold Et FB
       rw[Ly (t:=DA m.Edges a (s&&&~~~a) d e) (a:=d) (b:=e) rfl,hdt]
       dsimp only
       have heq:∀ x y:AC,(x == y)=decide (x.toNat=y.toNat):=fun x y=>by
        by_cases h:x=y
        ·subst h;simp
        ·have h2:¬ x.toNat=y.toNat:=fun e=>h (BitVec.eq_of_toNat_eq e)
         rw[decide_eq_false h2];simpa using h
       rw[heq];rfl
      rw[hb]
      have hp2:IE (Ap m.Kind m.Edges m.Stats) (some u) (some (DA m.Edges a (s&&&~~~a) d e))=if Et (Ap m.Kind m.Edges m.Stats) (DA m.Edges a (s&&&~~~a) d e) u=true then some (DA m.Edges a (s&&&~~~a) d e) else some u:=rfl
      rw[hp2]
      cases hbb:Et (Ap m.Kind m.Edges m.Stats) (DA m.Edges a (s&&&~~~a) d e) u
      ·simp only[Bool.false_eq_true,if_false]
       exact next _ (c+1) _ (by omega) (fun q _=>rfl) h3
      ·simp only[if_true]
       exact next _ (c+1) _ (by omega) (fun q hq=>by rw[put,if_neg hq]) (by rw[put,if_pos rfl];rfl)
end
section
open Classical
theorem ABR {es:List AD} {f:Gx} {s:AC} (h:Al s≤5) (hc:Al s≠1):Bd es f 5 s=((DT s).map fun a=>Fj es a (s&&&~~~a) (Bd es f 5 a) (Bd es f 5 (s&&&~~~a))).foldl (IE f) none:=by
 have e:Bd es f 5 s=((DT s).map fun a=>Fj es a (s&&&~~~a) (Bd es f 4 a) (Bd es f 4 (s&&&~~~a))).foldl (IE f) none:=by
  show Bd es f (4+1) s=_
  rw[Bd,if_neg hc]
 rw[e]
 congr 1
 refine List.map_congr_left fun a ha=>?_
 obtain⟨k1,k2,k3⟩:=El ha
 rw[Tp 4 5 a (by omega) (by omega) k2,Tp 4 5 (s&&&~~~a) (by omega) (by omega) k3]
theorem AAh {s:AC} (h:Al s=1):DT s=[]:=by
 cases hl:DT s with
 | nil=>rfl
 | cons a l =>
  obtain⟨k1,k2,k3⟩:=El (s:=s) (a:=a) (by rw[hl];simp)
  omega
def NR (es:List AD) (D:AC→Option AA) (l:List AC):Nat:=(l.map fun s=>((DT s).filter (okC es D s)).length).sum
theorem AD6 (s:AC) (h:Al s≤5):(DT s).length≤31:=by
 have h1:(DT s).length≤(BS s).length:=List.length_filter_le _ _
 have h2:=KK s
 unfold Al at h
 have:(Bf s).length=0∨(Bf s).length=1∨(Bf s).length=2∨(Bf s).length=3∨(Bf s).length=4∨(Bf s).length=5:=by omega
 rcases this with e | e | e | e | e | e <;> rw[e] at h2 <;> omega
theorem AEd (s:AC):GP s=some ((DT s).map fun a=>(a,s&&&~~~a)):=by
 unfold GP
 rw[PF];rfl
theorem AF1 {m:Ae} (w:Gp m.Edges) (all:AC) (hall:Al all≤5)
  (hP:∀ a b,(DJ m.Edges (Bs m.Edges a b)).length≤1000000∧∀ p∈DJ m.Edges (Bs m.Edges a b),p.size≤1000000) (hsz:∀ n s t,Al s≤5→t∈spF m.Edges n s→t.size≤100000):∀ (post pre:List AC) (c:Nat) (mm:List (AC × AF)) (mo:AT),mo.model=m→pre++post=BS all→c≤pre.length * 31 →
  (∀ i∈Bf all,CP (Cw i) mm=some ⟨FI i,0#64,0#64⟩) →
  (∀ s∈pre,Al s≠1→CP s mm=(Bd m.Edges (Ap m.Kind m.Edges m.Stats) 5 s).map (FB (Ap m.Kind m.Edges m.Stats))) →
  (∀ s,s ∉ pre→inS s all=true→Al s≠1→CP s mm=none) →
  ∃ mm',Am.r0 (post,m,(c:Int),mm,mo)=some (((c+NR m.Edges (fun s=>Bd m.Edges (Ap m.Kind m.Edges m.Stats) 5 s) post:Nat):Int),mm',(⟨m,()⟩:AT))∧(∀ i∈Bf all,CP (Cw i) mm'=some ⟨FI i,0#64,0#64⟩) ∧
   ∀ s∈BS all,Al s≠1→CP s mm'=(Bd m.Edges (Ap m.Kind m.Edges m.Stats) 5 s).map (FB (Ap m.Kind m.Edges m.Stats)):=by
 have hpl:(BS all).length≤31:=by
  have h2:=KK all
  unfold Al at hall
  have:(Bf all).length=0∨(Bf all).length=1∨(Bf all).length=2∨(Bf all).length=3∨(Bf all).length=4∨(Bf all).length=5:=by omega
  rcases this with e | e | e | e | e | e <;> rw[e] at h2 <;> omega
 intro post
 induction post with
 | nil =>
  intro pre c mm mo hmo he hcc i1 i2 i3
  rw[List.append_nil] at he
  rw[Am.r0]
  exact⟨mm,by rw[← hmo];rfl,i1,fun s hs=>i2 s (by rw[he];exact hs)⟩
 | cons s l ih =>
  intro pre c mm mo hmo he hcc i1 i2 i3
  have hlen:pre.length+(l.length+1)=(BS all).length:=by rw[← he,List.length_append];rfl
  have hlt:=LF all
  rw[← he] at hlt
  obtain⟨_,hl2,hl3⟩:=List.pairwise_append.1 hlt
  rw[List.pairwise_cons] at hl2
  have hsm:s∈BS all:=by rw[← he];simp
  obtain⟨hs0,hsin⟩:=(CY all s).1 hsm
  have hcs:Al s≤Al all:=by have:=Ip hsin;omega
  have hcp:1≤Al s:=by
   rcases Nat.eq_zero_or_pos (Al s) with h | h
   ·exact absurd (Ky h) hs0
   ·exact h
  have hnp:s ∉ pre:=fun h=>by have:=hl3 s h s List.mem_cons_self;omega
  have hmo2:(⟨mo.model,()⟩:AT)=⟨m,()⟩:=by rw[hmo]
  have hcl:=AD6 s (by omega)
  rw[Am.r0]
  dsimp only
  rw[AEd]
  simp -implicitDefEqProofs only[Option.bind_eq_bind,Option.bind_some]
  rw[hmo2]
  have hcut:∀ l',NR m.Edges (fun s=>Bd m.Edges (Ap m.Kind m.Edges m.Stats) 5 s) (s :: l')=((DT s).filter (okC m.Edges (fun s=>Bd m.Edges (Ap m.Kind m.Edges m.Stats) 5 s) s)).length+NR m.Edges (fun s=>Bd m.Edges (Ap m.Kind m.Edges m.Stats) 5 s) l':=fun l'=>by unfold NR;rw[List.map_cons,List.sum_cons]
  have sub:∀ a∈DT s,∃ k,CP a mm=(Bd m.Edges (Ap m.Kind m.Edges m.Stats) 5 a).map fun t=>⟨t,Be (Ap m.Kind m.Edges m.Stats) t,k⟩:=fun a ha=>by
   obtain⟨k1,k2,k3⟩:=El ha
   obtain⟨h1,h2,h3⟩:=(Ee s a).1 ha
   have hina:inS a all=true:=(DB _ _).2 fun n hn=>(DB s all).1 hsin n ((DB a s).1 h2 n hn)
   by_cases h5:Al a=1
   ·obtain⟨h6,h7⟩:=Mx hina h5
    refine⟨0#64,?_⟩
    have h8:=i1 _ h6
    rw[← h7] at h8
    rw[h8]
    show _=Option.map _ (Bd m.Edges (Ap m.Kind m.Edges m.Stats) (4+1) a)
    rw[Bd,if_pos h5,Option.map_some]
    try dsimp only
    rw[OL (Ap m.Kind m.Edges m.Stats) (t:=FI (Fr a)) (by show ([]:List AA).length≠2;simp)]
   ·have h4:=(CY all _).2 ⟨h1,hina⟩
    rw[← he] at h4
    have h6:=Me h2
    have h7:a.toNat≠s.toNat:=fun h=>h3 (BitVec.eq_of_toNat_eq h)
    have hpre:a∈pre:=by
     rcases List.mem_append.1 h4 with h | h
     ·exact h
     ·rcases List.mem_cons.1 h with h | h
      ·exact absurd h h3
      ·have:=hl2.1 _ h;omega
    rw[i2 a hpre h5]
    cases hb:Bd m.Edges (Ap m.Kind m.Edges m.Stats) 5 a with
    | none=>exact⟨0#64,rfl⟩
    | some t=>exact⟨NV t,rfl⟩
  have hDs:∀ a∈DT s,∀ t,Bd m.Edges (Ap m.Kind m.Edges m.Stats) 5 a=some t→t.size≤100000∧AS t=a:=fun a ha t ht=>by
   obtain⟨k1,k2,k3⟩:=El ha
   have hb:=(KP (es:=m.Edges) (f:=Ap m.Kind m.Edges m.Stats) (M:=100000) hsz 5 a (by omega)).2 t ht
   exact⟨hsz _ _ _ (by omega) hb.1,GS 5 _ _ hb.1⟩
  by_cases hc:Al s=1
  ·have hg:=i1 _ (Mx hsin hc).1
   rw[← (Mx hsin hc).2] at hg
   have e0:=AAh hc
   rw[hcut,e0,List.map_nil,Am.r2]
   simp -implicitDefEqProofs only[Option.bind_some]
   obtain⟨mm',k1,k2,k3⟩:=ih (pre++[s]) c mm (⟨m,()⟩:AT) rfl (by rw[List.append_assoc];exact he) (by rw[CF];omega) i1 (fun q hq hcq=>by
     rcases List.mem_append.1 hq with h | h
     ·exact i2 q h hcq
     ·rw[List.mem_singleton] at h;subst h;exact absurd hc hcq) (fun q hq hin hcq=>i3 q (fun h=>hq (List.mem_append_left _ h)) hin hcq)
   refine⟨mm',?_,k2,k3⟩
   rw[k1];simp
  ·obtain⟨mm',k1,k2,k3⟩:=AGV (m:=m) w s (fun q=>Bd m.Edges (Ap m.Kind m.Edges m.Stats) 5 q) hDs hP (DT s) [] none c mm (⟨m,()⟩:AT) rfl rfl (by omega) sub (by rw[i3 s hnp hsin hc];rfl)
   rw[k1]
   simp -implicitDefEqProofs only[Option.bind_some]
   rw[← ABR (by omega) hc] at k3
   have hfl:=List.length_filter_le (okC m.Edges (fun q=>Bd m.Edges (Ap m.Kind m.Edges m.Stats) 5 q) s) (DT s)
   obtain⟨mm2,g1,g2,g3⟩:=ih (pre++[s]) (c+((DT s).filter (okC m.Edges (fun q=>Bd m.Edges (Ap m.Kind m.Edges m.Stats) 5 q) s)).length) mm' (⟨m,()⟩:AT) rfl (by rw[List.append_assoc];exact he) (by rw[CF];omega) (fun i hi=>by
     rw[k2 _ (fun h=>hc (by rw[← h];exact(RB (GI all i hi)).2))];exact i1 i hi) (fun q hq hcq=>by
     rcases List.mem_append.1 hq with h | h
     ·rw[k2 q (fun e=>hnp (e ▸ h))];exact i2 q h hcq
     ·rw[List.mem_singleton] at h;subst h;exact k3) (fun q hq hin hcq=>by
     rw[k2 q (fun e=>hq (by rw[e];simp))];exact i3 q (fun h=>hq (List.mem_append_left _ h)) hin hcq)
   refine⟨mm2,?_,g2,g3⟩
   rw[g1,hcut,Nat.add_assoc]
theorem PM {m:Ae} (w:Gp m.Edges) (t:AA) (ht:t.size≤1000000) (hall:Al (AS t)≤5) (h0:AS t≠0#64)
  (hP:∀ a b,(DJ m.Edges (Bs m.Edges a b)).length≤1000000∧∀ p∈DJ m.Edges (Bs m.Edges a b),p.size≤1000000) (hsz:∀ n s t,Al s≤5→t∈spF m.Edges n s→t.size≤100000) :
  Am (m,t)=some (match Bd m.Edges (Ap m.Kind m.Edges m.Stats) 5 (AS t) with
   | some x=>(x,Be (Ap m.Kind m.Edges m.Stats) x,((NR m.Edges (fun s=>Bd m.Edges (Ap m.Kind m.Edges m.Stats) 5 s) (BS (AS t)):Nat):Int))
   | none=>(⟨0,0,[],[],false⟩,0#64,((NR m.Edges (fun s=>Bd m.Edges (Ap m.Kind m.Edges m.Stats) 5 s) (BS (AS t)):Nat):Int))):=by
 have hself:inS (AS t) (AS t)=true:=(DB _ _).2 fun n h=>h
 have hmem:AS t∈BS (AS t):=(CY _ _).2 ⟨h0,hself⟩
 obtain⟨mm,n1,n2⟩:=AAC m (AS t) (Pd _)
 obtain⟨mm',r1,r2,r3⟩:=AF1 (m:=m) w (AS t) hall hP hsz (BS (AS t)) [] 0 mm (⟨m,()⟩:AT) rfl rfl (by simp) (fun i hi=>by
   rw[n2,if_pos ⟨i,hi,rfl⟩,(RB (GI _ i hi)).1]) (fun s hs=>by cases hs) (fun s _ hin hc=>by
   rw[n2,if_neg]
   rintro⟨i,hi,rfl⟩
   exact hc (RB (GI _ i hi)).2)
 rw[Nat.zero_add,show ((0:Nat):Int)=0 from rfl] at r1
 unfold Am
 dsimp only
 rw[VL t (by omega)]
 simp -implicitDefEqProofs only[Option.bind_eq_bind,Option.bind_some]
 rw[Xw]
 simp -implicitDefEqProofs only[Option.bind_some]
 rw[if_neg (by unfold Al at hall;simp;omega),n1]
 simp -implicitDefEqProofs only[Option.bind_some]
 rw[PF]
 simp -implicitDefEqProofs only[Option.bind_some]
 rw[r1]
 simp -implicitDefEqProofs only[Option.bind_some]
 unfold Dj
 dsimp only
 rw[NY]
 simp -implicitDefEqProofs only[Option.bind_eq_bind,Option.bind_some]
 by_cases hc:Al (AS t)=1
 ·obtain⟨hmin,hse⟩:=Mx hself hc
  have hg:CP (AS t) mm'=some ⟨FI (Fr (AS t)),0#64,0#64⟩:=by
   have:=r2 _ hmin
   rw[← hse] at this;exact this
  have hb:Bd m.Edges (Ap m.Kind m.Edges m.Stats) 5 (AS t)=some (FI (Fr (AS t))):=by
   show Bd m.Edges (Ap m.Kind m.Edges m.Stats) (4+1) (AS t)=_
   rw[Bd,if_pos hc]
  rw[hg,hb]
  dsimp only
  rw[GY _ (by rw[show (FI (Fr (AS t))).size=1 by rw[EE];rfl];omega),OL (Ap m.Kind m.Edges m.Stats) (t:=FI (Fr (AS t))) (by show ([]:List AA).length≠2;simp)]
  rfl
 ·rw[r3 _ hmem hc]
  cases hb:Bd m.Edges (Ap m.Kind m.Edges m.Stats) 5 (AS t) with
  | none =>
   simp only[Option.map_none]
   rw[GY _ (by rw[show (⟨0,0,[],[],false⟩:AA).size=1 by rw[EE];rfl];omega)]
   rfl
  | some x =>
   simp only[Option.map_some,FB]
   have hx:=(KP (es:=m.Edges) (f:=Ap m.Kind m.Edges m.Stats) (M:=100000) hsz 5 (AS t) hall).2 x hb
   have hxs:=hsz 5 _ x hall hx.1
   rw[GY x (by omega)]
   rfl
end
section
theorem Wh {α:Type} [DecidableEq α]:∀ {l m:List α},l.Nodup→(∀ x∈l,x∈m)→l.length≤m.length:=by
 intro l
 induction l with
 | nil=>intro m _ _;exact Nat.zero_le _
 | cons x l ih =>
  intro m h1 h2
  rw[List.nodup_cons] at h1
  have hx:=h2 x List.mem_cons_self
  have hle:=ih (m:=m.erase x) h1.2 (fun y hy=>(List.mem_erase_of_ne (fun e:y=x=>h1.1 (by rw[← e];exact hy))).2 (h2 y (List.mem_cons_of_mem _ hy)))
  rw[List.length_erase_of_mem hx] at hle
  have:=List.length_pos_of_mem hx
  rw[List.length_cons];omega
theorem YO {α β:Type} (f:α→List β):∀ l:List α,(l.flatMap f).length=(l.map fun x=>(f x).length).sum:=by
 intro l
 induction l with
 | nil=>rfl
 | cons x l ih=>rw[List.flatMap_cons,List.length_append,List.map_cons,List.sum_cons,ih]
def Gt (es:List AD) (all:AC):List AC:=(BS all).filter fun s=>decide (0<(spF es 5 s).length)
def Uj (es:List AD) (l:List AC):Nat:=(l.map fun a=>(l.filter fun b=>DD es a b).length).sum
theorem NM (s:AC):(BS s).Nodup:=(LF s).imp fun h e=>by rw[e] at h;omega
theorem RK {es:List AD} {f:Gx} {M:Nat} (hsz:∀ n s t,Al s≤5→t∈spF es n s→t.size≤M) {s:AC} (h:Al s≤5):(Bd es f 5 s).isSome=decide (0<(spF es 5 s).length):=by
 obtain⟨b1,b2⟩:=KP (es:=es) (f:=f) hsz 5 s h
 cases hb:Bd es f 5 s with
 | none =>
  have:spF es 5 s=[]:=List.eq_nil_iff_forall_not_mem.2 (b1 hb)
  rw[this];rfl
 | some t =>
  have:=List.length_pos_of_mem (b2 t hb).1
  simp[this]
theorem AD9 {es:List AD} {f:Gx} {M:Nat} (hsz:∀ n s t,Al s≤5→t∈spF es n s→t.size≤M) (all:AC) (hall:Al all≤5):NR es (fun s=>Bd es f 5 s) (BS all)=Uj es (Gt es all):=by
 have hA:NR es (fun s=>Bd es f 5 s) (BS all)=((BS all).flatMap fun s=>((DT s).filter (okC es (fun s=>Bd es f 5 s) s)).map fun a=>(a,s&&&~~~a)).length:=by
  rw[YO]
  unfold NR
  congr 1
  exact List.map_congr_left fun s _=>by rw[List.length_map]
 have hB:Uj es (Gt es all)=((Gt es all).flatMap fun a=>((Gt es all).filter fun b=>DD es a b).map fun b=>(a,b)).length:=by
  rw[YO]
  unfold Uj
  congr 1
  exact List.map_congr_left fun s _=>by rw[List.length_map]
 have sub_card:∀ {s},inS s all=true→Al s≤5:=fun h=>by have:=Ip h;omega
 have memA:∀ x:AC × AC,x∈((BS all).flatMap fun s=>((DT s).filter (okC es (fun s=>Bd es f 5 s) s)).map fun a=>(a,s&&&~~~a)) ↔ (∃ s∈BS all,x.1∈DT s∧x.2=s&&&~~~x.1∧DD es x.1 x.2=true∧0<(spF es 5 x.1).length∧0<(spF es 5 x.2).length):=fun x=>by
  rw[List.mem_flatMap]
  constructor
  ·rintro⟨s,hs,h⟩
   obtain⟨a,ha,rfl⟩:=List.mem_map.1 h
   obtain⟨h1,h2⟩:=List.mem_filter.1 ha
   obtain⟨k1,k2,k3⟩:=El h1
   have hc:=sub_card ((CY all s).1 hs).2
   unfold okC at h2
   rw[RK hsz (by omega),RK hsz (by omega),Bool.and_eq_true,Bool.and_eq_true] at h2
   exact⟨s,hs,h1,rfl,h2.1,of_decide_eq_true h2.2.1,of_decide_eq_true h2.2.2⟩
  ·rintro⟨s,hs,h1,h2,h3,h4,h5⟩
   obtain⟨x1,x2⟩:=x
   dsimp only at h1 h2 h3 h4 h5
   subst h2
   obtain⟨k1,k2,k3⟩:=El h1
   have hc:=sub_card ((CY all s).1 hs).2
   refine⟨s,hs,List.mem_map.2 ⟨x1,List.mem_filter.2 ⟨h1,?_⟩,rfl⟩⟩
   unfold okC
   rw[RK hsz (by omega),RK hsz (by omega),h3,decide_eq_true h4,decide_eq_true h5];rfl
 have memB:∀ x:AC × AC,x∈((Gt es all).flatMap fun a=>((Gt es all).filter fun b=>DD es a b).map fun b=>(a,b)) ↔ (x.1∈BS all∧x.2∈BS all∧DD es x.1 x.2=true∧0<(spF es 5 x.1).length∧0<(spF es 5 x.2).length):=fun x=>by
  rw[List.mem_flatMap]
  constructor
  ·rintro⟨a,ha,h⟩
   obtain⟨b,hb,rfl⟩:=List.mem_map.1 h
   obtain⟨h1,h2⟩:=List.mem_filter.1 hb
   obtain⟨h3,h4⟩:=List.mem_filter.1 ha
   obtain⟨h5,h6⟩:=List.mem_filter.1 h1
   exact⟨h3,h5,h2,of_decide_eq_true h4,of_decide_eq_true h6⟩
  ·rintro⟨h1,h2,h3,h4,h5⟩
   obtain⟨x1,x2⟩:=x
   exact⟨x1,List.mem_filter.2 ⟨h1,decide_eq_true h4⟩,List.mem_map.2 ⟨x2,List.mem_filter.2 ⟨List.mem_filter.2 ⟨h2,decide_eq_true h5⟩,h3⟩,rfl⟩⟩
 have same:∀ x:AC × AC,x∈((BS all).flatMap fun s=>((DT s).filter (okC es (fun s=>Bd es f 5 s) s)).map fun a=>(a,s&&&~~~a)) ↔ x∈((Gt es all).flatMap fun a=>((Gt es all).filter fun b=>DD es a b).map fun b=>(a,b)):=fun x=>by
  rw[memA,memB]
  obtain⟨a,b⟩:=x
  dsimp only
  constructor
  ·rintro⟨s,hs,h1,rfl,h3,h4,h5⟩
   obtain⟨_,s2⟩:=(CY all s).1 hs
   obtain⟨c1,c2,_⟩:=(Ee s a).1 h1
   obtain⟨d1,d2,_⟩:=(Ee s _).1 (Uw h1)
   have tr:∀ q,inS q s=true→inS q all=true:=fun q hq=>(DB _ _).2 fun n hn=>(DB s all).1 s2 n ((DB q s).1 hq n hn)
   exact⟨(CY all a).2 ⟨c1,tr _ c2⟩,(CY all _).2 ⟨d1,tr _ d2⟩,h3,h4,h5⟩
  ·rintro⟨h1,h2,h3,h4,h5⟩
   obtain⟨a0,a1⟩:=(CY all a).1 h1
   obtain⟨b0,b1⟩:=(CY all b).1 h2
   have hj:=h3
   unfold DD at hj
   rw[Bool.and_eq_true,Bool.and_eq_true] at hj
   have hand:a&&&b=0#64:=by simpa using hj.1.2
   have dis:∀ n,AY a n=true→AY b n=true→False:=fun n x y=>by
    have:=(HH _).1 hand n
    rw[Mo,x,y] at this;cases this
   have hb:b=(a|||b)&&&~~~a:=by
    refine Jm fun n=>?_
    rw[Je,IM]
    cases h6:AY a n
    ·simp
    ·cases h7:AY b n
     ·rfl
     ·exact(dis n h6 h7).elim
   have hin:inS a (a|||b)=true:=(DB _ _).2 fun n hn=>by rw[IM,hn];rfl
   have hne:a≠a|||b:=fun e=>b0 ((HH b).2 fun n=>by
    cases h7:AY b n
    ·rfl
    ·have h8:AY (a|||b) n=true:=by rw[IM,h7,Bool.or_true]
     rw[← e] at h8
     exact(dis n h8 h7).elim)
   have h0:a|||b≠0#64:=fun e=>a0 ((HH a).2 fun n=>by
    cases h7:AY a n
    ·rfl
    ·have h8:=(DB a (a|||b)).1 hin n h7
     rw[e,HA] at h8;cases h8)
   refine⟨a|||b,(CY all _).2 ⟨h0,(DB _ _).2 fun n hn=>?_⟩,(Ee _ a).2 ⟨a0,hin,hne⟩,hb,h3,h4,h5⟩
   rw[IM,Bool.or_eq_true] at hn
   rcases hn with hn | hn
   ·exact(DB a all).1 a1 n hn
   ·exact(DB b all).1 b1 n hn
 have nodA:((BS all).flatMap fun s=>((DT s).filter (okC es (fun s=>Bd es f 5 s) s)).map fun a=>(a,s&&&~~~a)).Nodup:=by
  refine List.pairwise_flatMap.2 ⟨fun s hs=>?_,?_⟩
  ·refine List.Pairwise.map (R:=fun a b:AC=>a≠b) _ (fun a b (hab:a≠b) e=>hab (congrArg Prod.fst e)) ?_
   exact((NM s).filter _).filter _
  ·refine(NM all).imp_of_mem fun {s1 s2} hs1 hs2 hne x hx y hy e=>?_
   obtain⟨a,ha,rfl⟩:=List.mem_map.1 hx
   obtain⟨b,hb,rfl⟩:=List.mem_map.1 hy
   have e1:=congrArg Prod.fst e
   have e2:=congrArg Prod.snd e
   dsimp only at e1 e2
   subst e1
   have k1:=VB ((Ee s1 a).1 (List.mem_filter.1 ha).1).2.1
   have k2:=VB ((Ee s2 a).1 (List.mem_filter.1 hb).1).2.1
   exact hne (by rw[← k1,← k2,e2])
 have nodB:((Gt es all).flatMap fun a=>((Gt es all).filter fun b=>DD es a b).map fun b=>(a,b)).Nodup:=by
  have hn:(Gt es all).Nodup:=(NM all).filter _
  refine List.pairwise_flatMap.2 ⟨fun s hs=>?_,?_⟩
  ·exact List.Pairwise.map (R:=fun a b:AC=>a≠b) _ (fun a b (hab:a≠b) e=>hab (congrArg Prod.snd e)) (hn.filter _)
  ·refine hn.imp fun {s1 s2} hne x hx y hy e=>?_
   obtain⟨a,ha,rfl⟩:=List.mem_map.1 hx
   obtain⟨b,hb,rfl⟩:=List.mem_map.1 hy
   exact hne (congrArg Prod.fst e)
 have l1:=Wh nodA (fun x hx=>(same x).1 hx)
 have l2:=Wh nodB (fun x hx=>(same x).2 hx)
 omega
end
section
end
section
@[go_sem] theorem AOK:lrp Tryz.prog 56 1=(6,[]):=by kernel_rfl
theorem AKc:okF Tryz.f56=true:=by kernel_rfl
def JD (x:AA):Option (List AA) :=
 BD x>>=fun r1 =>
 An x>>=fun r3 =>
 Ao (r1,r3)>>=fun r5 =>
 some r5
instance JD.w:AH JD (fun x r=>Fn Tryz.prog 56 [.agg (AA.C x)] (.slice .foreign (r.map AA.av))):=⟨by
 intro x r h
 rw[JD] at h
 try dsimp only
 refine Fn.of_lc mix ANL AKc (by rfl) (flC (AA.flatC _) (flN)) (AQ _ AA.flat _) ?_
 simp -implicitDefEqProofs only[go_sem,Tryz.f56]
 exact AN⟩
end
section
end
section
theorem AAS {t:AA}:∀ {l:List AA},t∈l→∃ pre post,l=pre++t :: post∧t ∉ pre:=by
 intro l
 induction l with
 | nil=>intro h;cases h
 | cons x l ih =>
  intro h
  by_cases e:x=t
  ·subst e;exact⟨[],l,rfl,fun h=>by cases h⟩
  ·rcases List.mem_cons.1 h with h | h
   ·exact absurd h.symm e
   ·obtain⟨pre,post,h1,h2⟩:=ih h
    exact⟨x :: pre,post,by rw[h1];rfl,fun h3=>(List.mem_cons.1 h3).elim (fun h4=>e h4.symm) h2⟩
end
section
theorem AKr:okF Tryz.f42=true:=by kernel_rfl
def JX (x:Int × Int):Option (AB) :=
 some (⟨2,0,1,(⟨1,x.1,0,(⟨false,0⟩:BV)⟩:BE),(⟨1,x.2,0,(⟨false,0⟩:BV)⟩:BE),[]⟩:AB)
instance JX.w:AH JX (fun x r=>Fn Tryz.prog 42 [.i64 x.1,.i64 x.2] (.agg (AB.C r))):=⟨by
 intro x r h
 rw[JX] at h
 try dsimp only
 refine Fn.of_lc mix ANV AKr (by rfl) (flC (.atom _) (flC (.atom _) (flN))) (AB.flatC _) ?_
 simp -implicitDefEqProofs only[go_sem,Tryz.f42]
 exact AN⟩
end
section
theorem ALi:okF Tryz.f41=true:=by kernel_rfl
def Lf (x:Int × AA × AA × List AB):Option (AA) :=
 some (⟨x.1,0,[x.2.1,x.2.2.1],x.2.2.2,false⟩:AA)
instance Lf.w:AH Lf (fun x r=>Fn Tryz.prog 41 [.i64 x.1,.agg (AA.C x.2.1),.agg (AA.C x.2.2.1),.slice .foreign (x.2.2.2.map AB.av)] (.agg (AA.C r))):=⟨by
 intro x r h
 rw[Lf] at h
 try dsimp only
 refine Fn.of_lc mix AMa ALi (by rfl) (flC (.atom _) (flC (AA.flatC _) (flC (AA.flatC _) (flC (AQ _ AB.flat _) (flN))))) (AA.flatC _) ?_
 simp -implicitDefEqProofs only[go_sem,Tryz.f41]
 exact AN⟩
end
section
theorem ALY:okF Tryz.f44=true:=by kernel_rfl
def HG (x:Int):Option (AA) :=
 GN 0>>=fun r1 =>
 GN 1>>=fun r3 =>
 JX (0,1)>>=fun r5 =>
 Lf (x,r1,r3,[r5])>>=fun r7 =>
 some r7
instance HG.w:AH HG (fun x r=>Fn Tryz.prog 44 [.i64 x] (.agg (AA.C r))):=⟨by
 intro x r h
 rw[HG] at h
 try dsimp only
 refine Fn.of_lc mix ANh ALY (by rfl) (flC (.atom _) (flN)) (AA.flatC _) ?_
 simp -implicitDefEqProofs only[go_sem,Tryz.f44]
 exact AN⟩
end
section
theorem AK8:okF Tryz.f43=true:=by kernel_rfl
def Hu (x:Int):Option (Ae) :=
 HG 1>>=fun r1 =>
 BD r1>>=fun r3 =>
 some (⟨x,r3,(⟨[10#64,20#64],[32768#64]⟩:Bb)⟩:Ae)
instance Hu.w:AH Hu (fun x r=>Fn Tryz.prog 43 [.i64 x] (.agg (Ae.C r))):=⟨by
 intro x r h
 rw[Hu] at h
 try dsimp only
 refine Fn.of_lc mix AMw AK8 (by rfl) (flC (.atom _) (flN)) (Ae.flatC _) ?_
 simp -implicitDefEqProofs only[go_sem,Tryz.f43]
 exact AN⟩
end
section
def Ka:AB:=⟨2,0,1,⟨1,0,0,⟨false,0⟩⟩,⟨1,1,0,⟨false,0⟩⟩,[]⟩
def lf (n:Int):AA:=⟨0,n,[],[],false⟩
def two (k:Int) (a b:Int):AA:=⟨k,0,[lf a,lf b],[Ka],false⟩
theorem AAv (n:Int):(lf n).tour=[lf n]:=by rw[Db];rfl
theorem AFm (k a b:Int):(two k a b).tour=[lf a,lf b,two k a b]:=by
 rw[Db]
 show [lf a,lf b].flatMap AA.tour++_=_
 simp[AAv]
theorem Ql:Ka.size=1:=by rw[Jh];rfl
theorem WV (n:Int):(lf n).size=1:=by rw[EE];rfl
theorem TT (k a b:Int):(two k a b).size=4:=by
 rw[EE]
 show 1+([Ka].map AB.size).sum+([lf a,lf b].map AA.size).sum=4
 simp[Ql,WV]
theorem AAw (n:Int):AS (lf n)=Cw n:=by
 unfold AS
 rw[AAv]
 simp[Ad,lf,Gd,Hy]
theorem QV (k:Int):HG k=some (two k 0 1):=rfl
theorem NF (t:BE):EJ t=some (if t.Kind=1 then Cw t.Table else 0#64):=by
 unfold EJ
 by_cases h:t.Kind=1
 ·rw[if_neg (by simpa using h),if_pos h,JJ _ (by simp)]
  simp -implicitDefEqProofs only[Option.bind_eq_bind,Option.bind_some]
  rw[Gd,Hy,BitVec.or_zero]
 ·rw[if_pos (by simpa using h),if_neg h]
theorem AAk:BY Ka=some (3#64):=by
 rw[BY,NF,NF]
 simp -implicitDefEqProofs only[Option.bind_eq_bind,Option.bind_some]
 rw[BY.l0,if_neg (by simp[Ka])]
 rfl
theorem AB1:AP (two 1 0 1)=some ⟨[⟨Ka,1#64,2#64, -1⟩],[]⟩:=by
 unfold AP
 rw[KJ _ (by rw[TT];omega),AFm]
 simp -implicitDefEqProofs only[Option.bind_eq_bind,Option.bind_some]
 have w1:w64 (0+1)=1:=by decide
 have w2:w64 (1+1)=2:=by decide
 have w3:w64 (2+1)=3:=by decide
 have g0:AX [lf 0,lf 1,two 1 0 1] 0=some (lf 0):=rfl
 have g1:AX [lf 0,lf 1,two 1 0 1] 1=some (lf 1):=rfl
 have g2:AX [lf 0,lf 1,two 1 0 1] 2=some (two 1 0 1):=rfl
 have e0:AP.l0 ([lf 0,lf 1,two 1 0 1],([]:List AC),0,(⟨[],[]⟩:AG),(⟨[],[]⟩:AG))=some []:=by
  rw[AP.l0,if_pos (by simp)]
  dsimp only
  rw[g0]
  simp -implicitDefEqProofs only[Option.bind_eq_bind,Option.bind_some]
  rw[if_neg (by simp[lf]),w1]
  rw[AP.l0,if_pos (by simp)]
  dsimp only
  rw[g1]
  simp -implicitDefEqProofs only[Option.bind_eq_bind,Option.bind_some]
  rw[if_neg (by simp[lf]),w2]
  rw[AP.l0,if_pos (by simp)]
  dsimp only
  rw[g2]
  simp -implicitDefEqProofs only[Option.bind_eq_bind,Option.bind_some]
  rw[if_neg (by simp[two]),w3]
  rw[AP.l0,if_neg (by simp)]
 rw[e0]
 simp -implicitDefEqProofs only[Option.bind_some]
 rw[AP.l1,if_pos (by simp)]
 dsimp only
 rw[g0]
 simp -implicitDefEqProofs only[Option.bind_eq_bind,Option.bind_some]
 rw[if_pos (by simp[lf]),w1]
 rw[AP.l1,if_pos (by simp)]
 dsimp only
 rw[g1]
 simp -implicitDefEqProofs only[Option.bind_eq_bind,Option.bind_some]
 rw[if_pos (by simp[lf]),w2]
 rw[AP.l1,if_pos (by simp)]
 dsimp only
 rw[g2]
 simp -implicitDefEqProofs only[Option.bind_eq_bind,Option.bind_some]
 rw[if_neg (by simp[two])]
 have k0:(two 1 0 1).Kids[0]?=some (lf 0):=rfl
 have k1:(two 1 0 1).Kids[1]?=some (lf 1):=rfl
 rw[k0,k1]
 simp -implicitDefEqProofs only[Option.bind_some]
 rw[Cm _ (by rw[WV];omega),Cm _ (by rw[WV];omega),AAw,AAw]
 simp -implicitDefEqProofs only[Option.bind_some]
 rw[AP.l2,if_neg (by simp)]
 simp -implicitDefEqProofs only[Option.bind_some]
 rw[AP.l3,if_pos (by simp[two])]
 dsimp only
 have c0:AX (two 1 0 1).Conj 0=some Ka:=rfl
 rw[c0]
 simp -implicitDefEqProofs only[Option.bind_eq_bind,Option.bind_some]
 rw[AAk]
 simp -implicitDefEqProofs only[Option.bind_some]
 rw[if_pos (by simp[two]),Bp (by simp)]
 simp -implicitDefEqProofs only[Option.bind_some]
 rw[w1,AP.l3,if_neg (by simp[two])]
 simp -implicitDefEqProofs only[Option.bind_some]
 rw[if_neg (by simp[two]),w3]
 rw[AP.l1,if_neg (by simp)]
 rfl
theorem ACR (l:AG) (h:l.Ops=[]) (hj:l.Joins.length≤1000000):CE l=some l:=by
 obtain⟨js,os⟩:=l
 dsimp only at h hj
 subst h
 unfold CE FX
 dsimp only
 rw[Bp (by simp;omega),Bp (by simp)]
 simp -implicitDefEqProofs only[Option.bind_eq_bind,Option.bind_some,List.nil_append]
 have w0:(0:Int)≤w64 ((([]:List AK).length:Int) * (([]:List AK).length:Int)):=by decide
 rw[CE.l0,if_pos (decide_eq_true w0)]
 dsimp only
 have:Ah (⟨js,[]⟩:AG)=some (-1, -1):=by
  unfold Ah
  rw[Ah.l0,if_neg (by simp)]
  rfl
 rw[this]
 rfl
theorem UJ (l:AG) (h:l.Ops=[]) (k:Int) (s:AC):Aq (l,k,s)=some s:=by
 unfold Aq
 dsimp only
 rw[Aq.l0]
 dsimp only
 rw[Aq.l1,if_neg (by simp[h])]
 simp -implicitDefEqProofs only[Option.bind_eq_bind,Option.bind_some]
 rw[if_pos (by simp)]
 rfl
theorem AEk:BD (two 1 0 1)=some [⟨1,[Ka],3#64,1#64,2#64⟩]:=by
 unfold BD
 rw[AB1]
 simp -implicitDefEqProofs only[Option.bind_eq_bind,Option.bind_some]
 rw[ACR _ rfl (by simp)]
 simp -implicitDefEqProofs only[Option.bind_some]
 rw[BD.l0,if_pos (by simp)]
 dsimp only
 have g:AX [(⟨Ka,1#64,2#64, -1⟩:AO)] 0=some ⟨Ka,1#64,2#64, -1⟩:=rfl
 rw[g]
 simp -implicitDefEqProofs only[Option.bind_eq_bind,Option.bind_some]
 rw[UJ _ rfl,UJ _ rfl]
 simp -implicitDefEqProofs only[Option.bind_some]
 rw[Bp (by simp)]
 simp -implicitDefEqProofs only[Option.bind_some]
 have w1:w64 (0+1)=1:=by decide
 rw[w1,BD.l0,if_neg (by simp)]
 simp -implicitDefEqProofs only[Option.bind_some]
 rw[BD.l1,if_neg (by simp)]
 rfl
theorem ZU (k:Int):Hu k=some ⟨k,[⟨1,[Ka],3#64,1#64,2#64⟩],⟨[10#64,20#64],[32768#64]⟩⟩:=by
 unfold Hu
 rw[QV]
 simp -implicitDefEqProofs only[Option.bind_eq_bind,Option.bind_some]
 rw[AEk];rfl
end
section
theorem AMT:okF Tryz.f8=true:=by kernel_rfl
def Gn (x:Ba × Int):Option (Bool) :=
 Hw x.1>>=fun r1 =>
 if r1=true then
  Gr x.1>>=fun r4 =>
  if r4=true then
   An x.1.Root>>=fun r7 =>
   Da r7>>=fun r9 =>
   some (decide (r9≤x.2))
  else
   some false
 else
  some false
instance Gn.w:AH Gn (fun x r=>Fn Tryz.prog 8 [.agg (Ba.C x.1),.i64 x.2] (.bool r)):=⟨by
 intro x r h
 rw[Gn] at h
 try dsimp only
 refine Fn.of_lc mix AOm AMT (by rfl) (flC (Ba.flatC _) (flC (.atom _) (flN))) (.atom _) ?_
 simp -implicitDefEqProofs only[go_sem,Tryz.f8]
 exact AN⟩
end
section
@[go_sem] theorem APn:lrp Tryz.prog 18 2=(12,[]):=by kernel_rfl
theorem AJe:okF Tryz.f18=true:=by kernel_rfl
def FE (x:Unit):Option (Bool) :=
 Hu 1>>=fun r1 =>
 HG 1>>=fun r3 =>
 Am (r1,r3)>>=fun r5 =>
 HG 1>>=fun r7 =>
 Cg (r5.1,r7)>>=fun r9 =>
 if r9=true then
  if(r5.2.1 == 100#64)=true then
   some (r5.2.2 == 2)
  else
   some false
 else
  some false
instance FE.w:AH FE (fun x r=>Fn Tryz.prog 18 [] (.bool r)):=⟨by
 intro x r h
 rw[FE] at h
 try dsimp only
 refine Fn.of_lc mix ANG AJe (by rfl) (flN) (.atom _) ?_
 simp -implicitDefEqProofs only[go_sem,Tryz.f18]
 exact AN⟩
end
section
theorem ALS:okF Tryz.f62=true:=by kernel_rfl
def Cf.l0 (x:List AD × List AC × List AC × Int):Option (List AC) :=
 if(decide (x.2.2.2<(x.2.2.1.length:Int)))=true then
  (AX x.2.2.1 x.2.2.2)>>=fun (e8:AC) =>
  Ao (x.1,e8)>>=fun r10 =>
  if(decide ((r10.length:Int) > 0))=true then
   (room 8 x.2.1 ([e8]))>>=fun (z13:List AC) =>
   Cf.l0 (x.1,z13,x.2.2.1,(w64 (x.2.2.2+1)))
  else
   Cf.l0 (x.1,x.2.1,x.2.2.1,(w64 (x.2.2.2+1)))
 else
  some x.2.1
 partial_fixpoint
theorem Cf.l0.ws:PC Cf.l0 (fun x o=>∀ lo c (Q:EP) (hb:∀ s:List AC,o=s→Q (.exit 0) ⟨[(4,.own 100400 1 (s.map AV.w))],[]⟩),AJ Tryz.prog 62 lo c 0 (VQ Q) ⟨[(3,.v (.slice .foreign (x.1.map AD.av))),(4,.own 100400 1 (x.2.1.map AV.w)),(5,.v (.slice .foreign (x.2.2.1.map AV.w))),(6,.v (.i64 x.2.2.2))],[]⟩):=by
 refine Cf.l0.partial_correctness _ ?_
 ·intro Rh Qa x o h
  have AFc:AH Rh _:=⟨Qa⟩
  intro lo c Q hb
  refine AJ.step mix AG6 (by kernel_rfl) ?_
  simp -implicitDefEqProofs only[go_sem,Tryz.f62]
  exact AN
instance Cf.l0.w:type_of% (AH.mk Cf.l0.ws):=⟨Cf.l0.ws⟩
def Cf (x:AA):Option (List AC) :=
 BD x>>=fun r1 =>
 An x>>=fun r3 =>
 BB r3>>=fun r5 =>
 Cf.l0 (r1,([]:List AC),r5,0)>>=fun (o15:List AC) =>
 some o15
instance Cf.w:AH Cf (fun x r=>Fn Tryz.prog 62 [.agg (AA.C x)] (.slice .foreign (r.map AV.w))):=⟨by
 intro x r h
 rw[Cf] at h
 try dsimp only
 refine Fn.of_lc mix AG6 ALS (by rfl) (flC (AA.flatC _) (flN)) (AQ _ (fun _=>.atom _) _) ?_
 simp -implicitDefEqProofs only[go_sem,Tryz.f62]
 exact AN⟩
end
section
@[go_sem] theorem AOX:lrp Tryz.prog 20 9=(15,[]):=by kernel_rfl
@[go_sem] theorem ANl:lrp Tryz.prog 20 18=(11,[]):=by kernel_rfl
theorem ALJ:okF Tryz.f20=true:=by kernel_rfl
def BG.l1 (x:List AC × Int × Int × Int × Aj × AA × AA):Option (Int) :=
 if(decide (x.2.2.2.1<(x.1.length:Int)))=true then
  (AX x.1 x.2.2.1)>>=fun (e5:AC) =>
  (AX x.1 x.2.2.2.1)>>=fun (e7:AC) =>
  CC (x.2.2.2.2.1.Edges,e5,e7)>>=fun r9 =>
  if r9.2=true then
   BG.l1 (x.1,(w64 (x.2.1+1)),x.2.2.1,(w64 (x.2.2.2.1+1)),x.2.2.2.2.1,x.2.2.2.2.2.1,x.2.2.2.2.2.2)
  else
   BG.l1 (x.1,x.2.1,x.2.2.1,(w64 (x.2.2.2.1+1)),x.2.2.2.2.1,x.2.2.2.2.2.1,x.2.2.2.2.2.2)
 else
  some x.2.1
 partial_fixpoint
theorem BG.l1.ws:PC BG.l1 (fun x o=>∀ lo c (Q:EP) (hb:∀ s:Int,o=s→Q (.exit 2) ⟨[(2,.lref 2 0),(3,.lref 3 0),(4,.lref 4 0),(7,.v (.slice .foreign (x.1.map AV.w))),(8,.v (.i64 s)),(9,.v (.i64 x.2.2.1))],[(2,[.v (.i64 x.2.2.2.2.1.Kind),.v (.slice .foreign (x.2.2.2.2.1.Edges.map AD.av)),.v (.slice .foreign (x.2.2.2.2.1.Stats.Rows.map AV.w)),.v (.slice .foreign (x.2.2.2.2.1.Stats.Sel.map AV.w))]),(3,[.v (.i64 x.2.2.2.2.2.1.Kind),.v (.i64 x.2.2.2.2.2.1.Table),.v (.slice .foreign (x.2.2.2.2.2.1.Kids.map AA.av)),.v (.slice .foreign (x.2.2.2.2.2.1.Conj.map AB.av)),.v (.bool x.2.2.2.2.2.1.Hash)]),(4,[.v (.i64 x.2.2.2.2.2.2.Kind),.v (.i64 x.2.2.2.2.2.2.Table),.own 20000402 5 (x.2.2.2.2.2.2.Kids.map AA.av),.own 20000403 14 (x.2.2.2.2.2.2.Conj.map AB.av),.v (.bool x.2.2.2.2.2.2.Hash)])]⟩),AJ Tryz.prog 20 lo c 1 (VQ Q) ⟨[(2,.lref 2 0),(3,.lref 3 0),(4,.lref 4 0),(7,.v (.slice .foreign (x.1.map AV.w))),(8,.v (.i64 x.2.1)),(9,.v (.i64 x.2.2.1)),(10,.v (.i64 x.2.2.2.1))],[(2,[.v (.i64 x.2.2.2.2.1.Kind),.v (.slice .foreign (x.2.2.2.2.1.Edges.map AD.av)),.v (.slice .foreign (x.2.2.2.2.1.Stats.Rows.map AV.w)),.v (.slice .foreign (x.2.2.2.2.1.Stats.Sel.map AV.w))]),(3,[.v (.i64 x.2.2.2.2.2.1.Kind),.v (.i64 x.2.2.2.2.2.1.Table),.v (.slice .foreign (x.2.2.2.2.2.1.Kids.map AA.av)),.v (.slice .foreign (x.2.2.2.2.2.1.Conj.map AB.av)),.v (.bool x.2.2.2.2.2.1.Hash)]),(4,[.v (.i64 x.2.2.2.2.2.2.Kind),.v (.i64 x.2.2.2.2.2.2.Table),.own 20000402 5 (x.2.2.2.2.2.2.Kids.map AA.av),.own 20000403 14 (x.2.2.2.2.2.2.Conj.map AB.av),.v (.bool x.2.2.2.2.2.2.Hash)])]⟩):=by
 refine BG.l1.partial_correctness _ ?_
 ·intro Rl Qp x o h
  have AFE:AH Rl _:=⟨Qp⟩
  intro lo c Q hb
  refine AJ.step mix ACC (by kernel_rfl) ?_
  simp -implicitDefEqProofs only[go_sem,Tryz.f20]
  exact AN
instance BG.l1.w:type_of% (AH.mk BG.l1.ws):=⟨BG.l1.ws⟩
def BG.l0 (x:List AC × Int × Int × Aj × AA × AA):Option (Int) :=
 if(decide (x.2.2.1<(x.1.length:Int)))=true then
  BG.l1 (x.1,x.2.1,x.2.2.1,0,x.2.2.2.1,(⟨x.2.2.2.2.1.Kind,x.2.2.2.2.1.Table,x.2.2.2.2.1.Kids,x.2.2.2.2.1.Conj,x.2.2.2.2.1.Hash⟩:AA),x.2.2.2.2.2)>>=fun (o12:Int) =>
  BG.l0 (x.1,o12,(w64 (x.2.2.1+1)),x.2.2.2.1,(⟨x.2.2.2.2.1.Kind,x.2.2.2.2.1.Table,x.2.2.2.2.1.Kids,x.2.2.2.2.1.Conj,x.2.2.2.2.1.Hash⟩:AA),x.2.2.2.2.2)
 else
  some x.2.1
 partial_fixpoint
theorem BG.l0.ws:PC BG.l0 (fun x o=>∀ lo c (Q:EP) (hb:∀ s:Int,o=s→Q (.exit 0) ⟨[(2,.lref 2 0),(3,.lref 3 0),(4,.lref 4 0),(8,.v (.i64 s))],[(2,[.v (.i64 x.2.2.2.1.Kind),.v (.slice .foreign (x.2.2.2.1.Edges.map AD.av)),.v (.slice .foreign (x.2.2.2.1.Stats.Rows.map AV.w)),.v (.slice .foreign (x.2.2.2.1.Stats.Sel.map AV.w))]),(3,[.v (.i64 x.2.2.2.2.1.Kind),.v (.i64 x.2.2.2.2.1.Table),.v (.slice .foreign (x.2.2.2.2.1.Kids.map AA.av)),.v (.slice .foreign (x.2.2.2.2.1.Conj.map AB.av)),.v (.bool x.2.2.2.2.1.Hash)]),(4,[.v (.i64 x.2.2.2.2.2.Kind),.v (.i64 x.2.2.2.2.2.Table),.own 20000402 5 (x.2.2.2.2.2.Kids.map AA.av),.own 20000403 14 (x.2.2.2.2.2.Conj.map AB.av),.v (.bool x.2.2.2.2.2.Hash)])]⟩),AJ Tryz.prog 20 lo c 0 (VQ Q) ⟨[(2,.lref 2 0),(3,.lref 3 0),(4,.lref 4 0),(7,.v (.slice .foreign (x.1.map AV.w))),(8,.v (.i64 x.2.1)),(9,.v (.i64 x.2.2.1))],[(2,[.v (.i64 x.2.2.2.1.Kind),.v (.slice .foreign (x.2.2.2.1.Edges.map AD.av)),.v (.slice .foreign (x.2.2.2.1.Stats.Rows.map AV.w)),.v (.slice .foreign (x.2.2.2.1.Stats.Sel.map AV.w))]),(3,[.v (.i64 x.2.2.2.2.1.Kind),.v (.i64 x.2.2.2.2.1.Table),.v (.slice .foreign (x.2.2.2.2.1.Kids.map AA.av)),.v (.slice .foreign (x.2.2.2.2.1.Conj.map AB.av)),.v (.bool x.2.2.2.2.1.Hash)]),(4,[.v (.i64 x.2.2.2.2.2.Kind),.v (.i64 x.2.2.2.2.2.Table),.own 20000402 5 (x.2.2.2.2.2.Kids.map AA.av),.own 20000403 14 (x.2.2.2.2.2.Conj.map AB.av),.v (.bool x.2.2.2.2.2.Hash)])]⟩):=by
 refine BG.l0.partial_correctness _ ?_
 ·intro Re Pv x o h
  have AFW:AH Re _:=⟨Pv⟩
  intro lo c Q hb
  refine AJ.step mix ACC (by kernel_rfl) ?_
  simp -implicitDefEqProofs only[go_sem,Tryz.f20]
  exact AN
instance BG.l0.w:type_of% (AH.mk BG.l0.ws):=⟨BG.l0.ws⟩
def BG (x:Aj × AA):Option (AA × AC × Int) :=
 Cf x.2>>=fun r1 =>
 BG.l0 (r1,0,0,x.1,x.2,(⟨0,0,[],[],false⟩:AA))>>=fun (o14:Int) =>
 An x.2>>=fun r16 =>
 Da r16>>=fun r18 =>
 if(decide (r18 > 12))=true then
  some ((⟨0,0,[],[],false⟩:AA),0#64,0)
 else
  JD x.2>>=fun r21 =>
  Ar (x.1,r21)>>=fun r23 =>
  if(decide (r23<0))=true then
   some ((⟨0,0,[],[],false⟩:AA),0#64,o14)
  else
   (AX r21 r23)>>=fun (e26:AA) =>
   Bw (x.1,e26)>>=fun r28 =>
   some (e26,r28,o14)
instance BG.w:AH BG (fun x r=>Fn Tryz.prog 20 [.agg (Aj.C x.1),.agg (AA.C x.2)] (.tuple [.agg (AA.C r.1),.w r.2.1,.i64 r.2.2])):=⟨by
 intro x r h
 rw[BG] at h
 try dsimp only
 refine Fn.of_lc mix ACC ALJ (by rfl) (flC (Aj.flatC _) (flC (AA.flatC _) (flN))) (.tuple _ (flC (AA.flatC _) (flC (.atom _) (flC (.atom _) (flN))))) ?_
 simp -implicitDefEqProofs only[go_sem,Tryz.f20]
 exact AN⟩
end
section
theorem ANK:okF Tryz.f4=true:=by kernel_rfl
def En (x:Ba × Ae):Option (Bool) :=
 Gn (x.1,4)>>=fun r1 =>
 if r1=true then
  Hx x.2>>=fun r4 =>
  if r4=true then
   BD x.1.Root>>=fun r7 =>
   Am ((⟨x.2.Kind,r7,x.2.Stats⟩:Ae),x.1.Root)>>=fun r9 =>
   BG ((⟨x.2.Kind,r7,x.2.Stats⟩:Aj),x.1.Root)>>=fun r11 =>
   Cg (r9.1,r11.1)>>=fun r13 =>
   if r13=true then
    if(r9.2.1 == r11.2.1)=true then
     if(r9.2.2 == r11.2.2)=true then
      FE ()>>=fun r18 =>
      some r18
     else
      some false
    else
     some false
   else
    some false
  else
   FE ()>>=fun r20 =>
   some r20
 else
  FE ()>>=fun r22 =>
  some r22
instance En.w:AH En (fun x r=>Fn Tryz.prog 4 [.agg (Ba.C x.1),.agg (Ae.C x.2)] (.bool r)):=⟨by
 intro x r h
 rw[En] at h
 try dsimp only
 refine Fn.of_lc mix AOo ANK (by rfl) (flC (Ba.flatC _) (flC (Ae.flatC _) (flN))) (.atom _) ?_
 simp -implicitDefEqProofs only[go_sem,Tryz.f4]
 exact AN⟩
end
section
theorem AGG {r:Aj} (w:Gp r.Edges) (L:List AC) (hL:L.length≤1000000) (i:Nat) (hi:i<L.length) (q z:AA):∀ (post pre:List AC) (n:Nat),pre++post=L→n+post.length≤1000000→BG.l1 (L,(n:Int),(i:Int),(pre.length:Int),r,q,z)=some ((n+(post.filter fun b=>DD r.Edges L[i] b).length:Nat):Int):=by
 intro post
 induction post with
 | nil=>intro pre n he _;rw[List.append_nil] at he;rw[BG.l1,if_neg (dge (by dsimp only;rw[← he];omega))];rfl
 | cons b l ih =>
  intro pre n he hn
  have hlen:pre.length+(l.length+1)=L.length:=by rw[← he,List.length_append];rfl
  rw[List.length_cons] at hn
  rw[BG.l1,if_pos (dlt (by dsimp only;omega))]
  dsimp only
  have hg:AX L (pre.length:Int)=some b:=by rw[← he,Ef]
  rw[Ag hi,hg]
  simp -implicitDefEqProofs only[Option.bind_eq_bind,Option.bind_some]
  rw[PD w]
  simp -implicitDefEqProofs only[Option.bind_some]
  have h1:w64 ((pre.length:Int)+1)=(((pre++[b]).length:Nat):Int):=by rw[CF,AU (by omega)]
  rw[List.filter_cons]
  cases hj:DD r.Edges L[i] b
  ·simp only[Bool.false_eq_true,if_false]
   rw[h1]
   exact ih (pre++[b]) n (by rw[List.append_assoc];exact he) (by omega)
  ·simp only[if_true]
   rw[h1,AU (by omega),ih (pre++[b]) (n+1) (by rw[List.append_assoc];exact he) (by omega),List.length_cons]
   congr 2;omega
theorem AGg {r:Aj} (w:Gp r.Edges) (L:List AC) (hL:L.length≤31) (q z:AA):∀ (post pre:List AC) (n:Nat),pre++post=L→n≤pre.length * 31→BG.l0 (L,(n:Int),(pre.length:Int),r,q,z)=some ((n+(post.map fun a=>(L.filter fun b=>DD r.Edges a b).length).sum:Nat):Int):=by
 obtain⟨q1,q2,q3,q4,q5⟩:=q
 intro post
 induction post with
 | nil=>intro pre n he _;rw[List.append_nil] at he;rw[BG.l0,if_neg (dge (by dsimp only;rw[← he];omega))];rfl
 | cons a l ih =>
  intro pre n he hn
  have hlen:pre.length+(l.length+1)=L.length:=by rw[← he,List.length_append];rfl
  rw[BG.l0,if_pos (dlt (by dsimp only;omega))]
  dsimp only
  have hi:pre.length<L.length:=by omega
  have hget:L[pre.length]=a:=by simp[← he]
  have h1:=AGG w L (by omega) pre.length hi ⟨q1,q2,q3,q4,q5⟩ z L [] n rfl (by omega)
  rw[List.length_nil,show ((0:Nat):Int)=0 from rfl,hget] at h1
  have hfl:=List.length_filter_le (fun b=>DD r.Edges a b) L
  rw[h1]
  simp -implicitDefEqProofs only[Option.bind_eq_bind,Option.bind_some]
  rw[AU (by omega)]
  have h2:=ih (pre++[a]) (n+(L.filter fun b=>DD r.Edges a b).length) (by rw[List.append_assoc];exact he) (by rw[CF];omega)
  rw[CF] at h2
  rw[h2,List.map_cons,List.sum_cons,Nat.add_assoc]
theorem XQ {es:List AD} (w:Gp es) (ps:List AC) (hps:∀ s∈ps,Al s≤5) (hl:ps.length≤1000000):∀ (post pre acc:List AC),pre++post=ps→acc.length≤pre.length→Cf.l0 (es,acc,ps,(pre.length:Int))=some (acc++post.filter fun s=>decide (0<(spF es 5 s).length)):=by
 intro post
 induction post with
 | nil=>intro pre acc he _;rw[List.append_nil] at he;rw[Cf.l0,if_neg (dge (by dsimp only;rw[← he];omega))];simp
 | cons s l ih =>
  intro pre acc he ha
  have hlen:pre.length+(l.length+1)=ps.length:=by rw[← he,List.length_append];rfl
  rw[Cf.l0,if_pos (dlt (by dsimp only;omega))]
  dsimp only
  have hg:AX ps (pre.length:Int)=some s:=by rw[← he,Ef]
  have hs:=hps s (by rw[← he];simp)
  rw[hg]
  simp -implicitDefEqProofs only[Option.bind_eq_bind,Option.bind_some]
  rw[SM w 5 s hs hs (by omega)]
  simp -implicitDefEqProofs only[Option.bind_some]
  rw[AU (by omega),List.filter_cons]
  have hn:=fun acc' h=>ih (pre++[s]) acc' (by rw[List.append_assoc];exact he) (by rw[CF];exact h)
  rw[CF] at hn
  by_cases hp:0<(spF es 5 s).length
  ·rw[if_pos (decide_eq_true (by omega)),Bp (by simp only[List.length_cons,List.length_nil];omega),if_pos (decide_eq_true hp)]
   simp -implicitDefEqProofs only[Option.bind_some]
   rw[hn _ (by rw[CF];omega),List.append_assoc];rfl
  ·rw[if_neg (by simpa using hp),if_neg (by simpa using hp),hn acc (by omega)]
theorem AFg {all:AC} (hall:Al all≤5):(BS all).length≤31:=by
 have h2:=KK all
 unfold Al at hall
 have:(Bf all).length=0∨(Bf all).length=1∨(Bf all).length=2∨(Bf all).length=3∨(Bf all).length=4∨(Bf all).length=5:=by omega
 rcases this with e | e | e | e | e | e <;> rw[e] at h2 <;> omega
theorem Xl {r:Aj} (w:Gp r.Edges) (t:AA) (he:BD t=some r.Edges) (ht:t.size≤1000000) (hall:Al (AS t)≤5)
  (hsz:∀ n s t,Al s≤5→t∈spF r.Edges n s→t.size≤100000) :
  BG (r,t)=some (match Bd r.Edges (Ap r.Kind r.Edges r.Stats) 5 (AS t) with
   | some x=>(x,Be (Ap r.Kind r.Edges r.Stats) x,((Uj r.Edges (Gt r.Edges (AS t)):Nat):Int))
   | none=>(⟨0,0,[],[],false⟩,0#64,((Uj r.Edges (Gt r.Edges (AS t)):Nat):Int))):=by
 have hE:r.Edges.length<9223372036854775808:=by have:=w.len;omega
 have hlen:=VZ r.Edges 5 (AS t) hall
 have hlen2:(spF r.Edges 5 (AS t)).length≤16384:=by
  have:Al (AS t)=0∨Al (AS t)=1∨Al (AS t)=2∨Al (AS t)=3∨Al (AS t)=4∨Al (AS t)=5:=by omega
  rcases this with e | e | e | e | e | e <;> rw[e] at hlen <;> simp[spL] at hlen <;> omega
 have hs:∀ x∈spF r.Edges 5 (AS t),x.size≤100000:=fun x hx=>hsz 5 _ x hall hx
 obtain⟨b1,b2⟩:=KP (es:=r.Edges) (f:=Ap r.Kind r.Edges r.Stats) (M:=100000) hsz 5 (AS t) hall
 have hp31:=AFg hall
 have hS:Cf t=some (Gt r.Edges (AS t)):=by
  unfold Cf
  rw[he,Cm t (by omega)]
  simp -implicitDefEqProofs only[Option.bind_eq_bind,Option.bind_some]
  rw[Ng _ (by unfold Al at hall;omega)]
  simp -implicitDefEqProofs only[Option.bind_some]
  have h0:=XQ w (BS (AS t)) (fun s hs=>by have:=Ip ((CY _ s).1 hs).2;omega) (by omega) (BS (AS t)) [] [] rfl (Nat.le_refl _)
  rw[List.length_nil,show ((0:Nat):Int)=0 from rfl,List.nil_append] at h0
  rw[h0];rfl
 have hSl:(Gt r.Edges (AS t)).length≤31:=Nat.le_trans (List.length_filter_le _ _) hp31
 have hC:=AGg w (Gt r.Edges (AS t)) hSl t (⟨0,0,[],[],false⟩:AA) (Gt r.Edges (AS t)) [] 0 rfl (Nat.zero_le _)
 rw[List.length_nil,show ((0:Nat):Int)=0 from rfl,Nat.zero_add] at hC
 unfold BG JD
 dsimp only
 rw[hS]
 simp -implicitDefEqProofs only[Option.bind_eq_bind,Option.bind_some]
 rw[hC,Cm t (by omega)]
 simp -implicitDefEqProofs only[Option.bind_some]
 rw[Jc]
 simp -implicitDefEqProofs only[Option.bind_some]
 rw[if_neg (by unfold Al at hall;simp;omega),he]
 simp -implicitDefEqProofs only[Option.bind_some]
 rw[SM w 5 (AS t) hall hall (by omega)]
 simp -implicitDefEqProofs only[Option.bind_some]
 cases hb:Bd r.Edges (Ap r.Kind r.Edges r.Stats) 5 (AS t) with
 | none =>
  have hf:spF r.Edges 5 (AS t)=[]:=List.eq_nil_iff_forall_not_mem.2 (b1 hb)
  rw[hf]
  have h1:Ar (r,[])=some (-1):=by
   unfold Ar
   dsimp only
   rw[Ar.l0,if_neg (by simp)];rfl
  rw[h1];rfl
 | some x =>
  obtain⟨x1,x3⟩:=b2 x hb
  obtain⟨pre,post,hl,hnp⟩:=AAS x1
  have hk:pre.length<(spF r.Edges 5 (AS t)).length:=by rw[hl,List.length_append,List.length_cons];omega
  have hget:(spF r.Edges 5 (AS t))[pre.length]=x:=by simp[hl]
  have hF:AAt (Ap r.Kind r.Edges r.Stats) (spF r.Edges 5 (AS t)) pre.length:=by
   refine⟨hk,fun j hj=>?_,fun j hj hlt=>?_⟩
   ·rw[hget]
    exact x3 _ (List.getElem_mem hj)
   ·rw[hget]
    have y1:=List.getElem_mem (l:=spF r.Edges 5 (AS t)) hj
    have h1:=x3 _ y1
    have h2:Ch (Ap r.Kind r.Edges r.Stats) x (spF r.Edges 5 (AS t))[j]≠0:=fun h=>by
     have e:=ACO 5 (AS t) _ _ x1 y1 h
     apply hnp
     rw[e]
     have:(spF r.Edges 5 (AS t))[j]=pre[j]:=by
      simp only[hl]
      rw[List.getElem_append_left hlt]
     rw[this];exact List.getElem_mem hlt
    omega
  rw[WI r hE _ (by omega) (fun y hy=>by have:=hs y hy;omega) hF]
  simp -implicitDefEqProofs only[Option.bind_some]
  rw[if_neg (by simp),Ag hk,hget]
  simp -implicitDefEqProofs only[Option.bind_some]
  rw[LM r hE x (by have:=hs x x1;omega)]
  rfl
theorem AH4 (q:Ba) (k:Int):∃ b,Gn (q,k)=some b∧(b=true→q.Root.size≤600∧YT q∧(Al (AS q.Root):Int)≤k):=by
 unfold Gn
 dsimp only
 rw[Yx]
 simp -implicitDefEqProofs only[Option.bind_eq_bind,Option.bind_some]
 by_cases h:q.Root.size≤600
 ·rw[if_pos (decide_eq_true h)]
  obtain⟨b,h1,h2⟩:=WA q h
  rw[h1]
  simp -implicitDefEqProofs only[Option.bind_some]
  cases b with
  | false=>exact⟨false,by simp,fun h=>by cases h⟩
  | true =>
   rw[if_pos rfl,Cm _ (by omega)]
   simp -implicitDefEqProofs only[Option.bind_some]
   rw[Jc]
   exact⟨_,rfl,fun h3=>⟨h,h2 rfl,by simpa [Al] using h3⟩⟩
 ·rw[if_neg (by simpa using h)]
  exact⟨false,rfl,fun h=>by cases h⟩
theorem AJF {l:List AB} {n:Nat} (h:wtC l≤n):l.length≤n∧∀ p∈l,p.size≤n:=by
 unfold wtC at h
 have h1:=Nk AB.size Jr l
 refine⟨by omega,fun p hp=>?_⟩
 have:∀ l:List AB,p∈l→p.size≤(l.map AB.size).sum:=by
  intro l
  induction l with
  | nil=>intro h;cases h
  | cons x l ih =>
   intro h
   rw[List.map_cons,List.sum_cons]
   rcases List.mem_cons.1 h with rfl | h
   ·omega
   ·have:=ih h;omega
 have:=this l hp
 omega
theorem SO {es:List AD} (hW:∀ a b,wtC (DJ es (Bs es a b))≤600):(∀ a b,(DJ es (Bs es a b)).length≤1000000∧∀ p∈DJ es (Bs es a b),p.size≤1000000)∧∀ n s t,Al s≤5→t∈spF es n s→t.size≤100000 :=
 ⟨fun a b=>by
  obtain⟨g1,g2⟩:=AJF (hW a b)
  exact⟨by omega,fun p hp=>by have:=g2 p hp;omega⟩,fun n s t hs hx=>by
  have h4:=AGq hW n s t hx
  have h5:2 * Al s * (600+1)≤2 * 5 * (600+1):=Nat.mul_le_mul_right _ (by omega)
  omega⟩
def JT:List AD:=[⟨1,[Ka],3#64,1#64,2#64⟩]
theorem ADq:Am (⟨1,JT,⟨[10#64,20#64],[32768#64]⟩⟩,two 1 0 1)=some (two 1 0 1,100#64,2):=by
 have ok:Gp JT:=⟨by decide,fun e h=>by
  rw[List.mem_singleton.1 h]
  exact⟨by decide,fun q hq=>by rw[List.mem_singleton.1 hq,Ql];omega⟩⟩
 have hs:(JT.map fun e=>wtC e.Preds).sum≤600:=by
  show wtC [Ka]+0≤600
  unfold wtC
  simp[Ql]
 obtain⟨hP,hsp⟩:=SO (fun a b=>Nat.le_trans (AD7 JT a b) hs)
 rw[PM (m:=(⟨1,JT,⟨[10#64,20#64],[32768#64]⟩⟩:Ae)) ok (two 1 0 1) (by rw[TT];decide) (of_decide_eq_true (by kernel_rfl)) (of_decide_eq_true (by kernel_rfl)) hP hsp]
 have h1:Bd JT (Ap 1 JT ⟨[10#64,20#64],[32768#64]⟩) 5 (AS (two 1 0 1))=some (two 1 0 1):=by kernel_rfl
 have h2:Be (Ap 1 JT ⟨[10#64,20#64],[32768#64]⟩) (two 1 0 1)=100#64:=by kernel_rfl
 have h3:NR JT (fun s=>Bd JT (Ap 1 JT ⟨[10#64,20#64],[32768#64]⟩) 5 s) (BS (AS (two 1 0 1)))=2:=by kernel_rfl
 rw[h1]
 dsimp only
 rw[h2,h3];rfl
theorem Km:FE ()=some true:=by
 unfold FE
 rw[ZU 1,QV]
 simp -implicitDefEqProofs only[Option.bind_eq_bind,Option.bind_some]
 have h:=ADq
 unfold JT at h
 rw[h]
 simp -implicitDefEqProofs only[Option.bind_eq_bind,Option.bind_some]
 rw[KD _ (by rw[TT];decide)]
 rfl
theorem So (q:Ba) (m:Ae):En (q,m)=some true:=by
 unfold En
 dsimp only
 obtain⟨b,h1,h2⟩:=AH4 q 4
 rw[h1]
 simp -implicitDefEqProofs only[Option.bind_eq_bind,Option.bind_some]
 cases b with
 | false=>rw[if_neg (by simp),Km];rfl
 | true =>
  obtain⟨hsz,R,hc⟩:=h2 rfl
  have hc:Al (AS q.Root)≤5:=by omega
  rw[if_pos rfl]
  obtain⟨b2,h3,_⟩:=Zd m
  rw[h3]
  simp -implicitDefEqProofs only[Option.bind_some]
  cases b2 with
  | false=>rw[if_neg (by simp),Km];rfl
  | true =>
   rw[if_pos rfl]
   have ok:=okT R.node
   obtain⟨es,e1,e2,e3⟩:=AGP R.ncols ok R.nodup (by omega)
   rw[e1]
   simp -implicitDefEqProofs only[Option.bind_some]
   obtain⟨hP,hsp⟩:=SO (es:=es) (fun a b=>Nat.le_trans (e3 a b) hsz)
   have hne:AS q.Root≠0#64:=fun h0=>by
    obtain⟨n,hn⟩:=Lo R.ncols q.Root ok
    rw[h0,HA] at hn;cases hn
   have d1:=PM (m:=(⟨m.Kind,es,m.Stats⟩:Ae)) e2 q.Root (by omega) hc hne hP hsp
   have d2:=Xl (r:=(⟨m.Kind,es,m.Stats⟩:Aj)) e2 q.Root e1 (by omega) hc hsp
   have hcp:=AD9 (es:=es) (f:=Ap m.Kind es m.Stats) hsp (AS q.Root) hc
   rw[d1,d2]
   simp -implicitDefEqProofs only[Option.bind_some]
   rw[hcp]
   cases hb:Bd es (Ap m.Kind es m.Stats) 5 (AS q.Root) with
   | none =>
    dsimp only
    rw[KD _ (by rw[EE];simp)]
    simp -implicitDefEqProofs only[Option.bind_some,Km,beq_self_eq_true,if_true]
   | some x =>
    dsimp only
    have hx:=(KP (es:=es) (f:=Ap m.Kind es m.Stats) (M:=100000) hsp 5 (AS q.Root) hc).2 x hb
    rw[KD x (by have:=hsp 5 _ x hc hx.1;omega)]
    simp -implicitDefEqProofs only[Option.bind_some,Km,beq_self_eq_true,if_true]
end
section
open Go.ChangeShapes Go.WideShapes Go.ChangeAt Go.RowKit
theorem AJw (μ:TypeId→Bool) (w:World) (ht:Mn gE w):Aa gE (mE μ) w:=by
 constructor <;> first | exact ht | (intros;simp_all [gE,mE])
theorem APd (b n:Nat):Imm gE b n:=⟨fun l h=>by simp[gE] at h,fun id h=>by simp[gE] at h⟩
theorem Fn.law {P:Program} {f:FuncId} {args:List AV} {vs:Array Value} {w:World} (h:Fn P f args (.bool true)) (ht:Mn gE w) (hr:Bi gE w args vs) :
  Calls P f vs w fun e w'=>e=.returned (.bool true)∧Below w.heap.size w w':=by
 have h0:=h (mE fun _=>false)
 refine(callsIn_wide.1 (h0.2.2 gE w vs ⟨fun _ _ _=>rfl,fun _ _ _=>rfl⟩ (AJw _ w ht) hr)).mono ?_
 rintro e w' ⟨v,g',rfl,hs,hm,hv⟩
 rw[hv.atom_inv]
 exact⟨rfl,hs.os,hs.tape,hs.output,hs.size,fun b hb=>hs.same b hb (fun l h=>by simp[mE] at h) (fun l h=>by simp[mE] at h)⟩
theorem Bi.nil {g:Gh} {w:World}:Bi g w [] #[]:=⟨rfl,fun j c v h=>by cases h⟩
theorem Bi.cons {g:Gh} {w:World} {a:AV} {v:Value} {as_:List AV} {vs:List Value} (h:Rep g w a v) (hs:Bi g w as_ vs.toArray):Bi g w (a :: as_) (v :: vs).toArray:=by
 refine⟨by have:=hs.1;simp at this ⊢;omega,fun j c x hc hx=>?_⟩
 cases j with
 | zero=>simp at hc hx;subst hc hx;exact h
 | succ j=>simp at hc hx;exact hs.2 j c x hc (by simpa using hx)
def Dv (P:Program) (t:TypeId) (cs:List AV):Option AV :=
 match DC P t with
 | some true=>some (.agg cs)
 | some false=>match cs with
  | [c]=>some c
  | _=>none
 | none=>none
inductive Wt (P:Program):TypeId→List AV→Prop
 | bool (t:TypeId) (b:Bool) (ht:P.underlying t=some .bool):Wt P t [.atom (.bool b)]
 | int (t:TypeId) (k:IntKind) (n:Int) (ht:P.underlying t=some (.int k)) (h:k.min≤n∧n≤k.max):Wt P t [.atom (.int k n)]
 | string (t:TypeId) (s:ByteArray) (ht:P.underlying t=some .string) (h:s.size≤maxLen):Wt P t [.atom (.string s)]
 | slice (t e:TypeId) (es:List AV) (ht:P.underlying t=some (.slice e)) (hl:es.length≤maxLen) (h:∀ x∈es,Wt P e x.cells) (hf:∀ x∈es,Dv P e x.cells=some x):Wt P t [.slice .foreign es]
 | struct (t:TypeId) (fs:Array Field) (cs:List AV) (ht:P.underlying t=some (.struct fs)) (hl:cs.length=P.cellsOf t) (h:∀ (i:Nat) (f:Field),fs[i]?=some f→Wt P f.type ((cs.drop f.offset).take (P.cellsOf f.type))):Wt P t cs
 | array (t e:TypeId) (n:Nat) (cs:List AV) (ht:P.underlying t=some (.array n e)) (hl:cs.length=P.cellsOf t) (h:∀ i,i<n→Wt P e ((cs.drop (i * P.cellsOf e)).take (P.cellsOf e))):Wt P t cs
def Lk:Nat→List (Nat × Nat)→Option Nat
 | k,[]=>some k
 | k,(o,s) :: l=>if o=k then Lk (k+s) l else none
def Ym (P:Program) (S:List TypeId):Bool:=S.all fun t=>match P.underlying t with
 | some .bool | some (.int _) | some .string=>P.cellsOf t == 1
 | some (.slice e)=>S.contains e&&decide (0<P.cellsOf e)&&P.cellsOf t == 1
 | some (.struct fs)=>(fs.all fun f=>S.contains f.type)&&Lk 0 (fs.toList.map fun f=>(f.offset,P.cellsOf f.type)) == some (P.cellsOf t)
 | some (.array n e)=>S.contains e&&Lk 0 ((List.range n).map fun i=>(i * P.cellsOf e,P.cellsOf e)) == some (P.cellsOf t)
 | _=>false
section
variable {H:Type} {enc:TypeId × Value→H} {P:Program} {W:World} {base b0:Nat} {spare:Nat→Bool} {held:Bool} {r:Reach}
theorem cells?_get {w:World} {a:Addr} {n:Nat} {cs:List Value} (h:w.cells? base a n=some cs):cs.length=n∧∀ (j:Nat) (v:Value),cs[j]?=some v→w.cell? (a.add j)=some v:=by
 unfold World.cells? at h
 split at h
 ·have h1:=mapM_some_length h
  refine⟨by simpa using h1,fun j v hj=>?_⟩
  have hlt:j<n:=by rw[← List.length_range (n:=n),← h1];exact(List.getElem?_eq_some_iff.1 hj).1
  rw[mapM_some_get h j j (by simp[hlt])];exact hj
 ·cases h
def KV (w:World) (as_:List AV) (cs:List Value):Prop:=as_.length=cs.length∧(∀ c∈as_,c.one=true)∧∀ (j:Nat) (a:AV) (v:Value),as_[j]?=some a→cs[j]?=some v→Rep gE w a v
theorem AGv:∀ {l:List (Nat × Nat)} {k n:Nat},Lk k l=some n→k≤n:=by
 intro l
 induction l with
 | nil=>intro k n h;simp[Lk] at h;omega
 | cons x l ih =>
  intro k n h
  obtain⟨o,s⟩:=x
  simp only[Lk] at h
  split at h
  ·have:=ih h;omega
  ·cases h
theorem ALd {w:World} {cs:List Value} {n:Nat} (hn:cs.length=n):∀ (l:List (Nat × Nat)) (k:Nat) (Q:Nat→List AV→Prop),Lk k l=some n→(∀ (i o s:Nat),l[i]?=some (o,s)→∃ as_,KV w as_ ((cs.drop o).take s)∧Q i as_) →
  ∃ as_,KV w as_ (cs.drop k)∧∀ (i o s:Nat),l[i]?=some (o,s)→k≤o∧Q i ((as_.drop (o - k)).take s):=by
 intro l
 induction l with
 | nil =>
  intro k Q h _
  simp[Lk] at h
  subst h
  exact⟨[],⟨by simp;omega,by simp,fun j a v h=>by simp at h⟩,fun i o s h=>by simp at h⟩
 | cons x l ih =>
  intro k Q h hp
  obtain⟨o,s⟩:=x
  simp only[Lk] at h
  split at h
  ·rename_i hok
   subst hok
   have hle:=AGv h
   obtain⟨as0,⟨h1,h2,h3⟩,hq⟩:=hp 0 o s rfl
   obtain⟨as1,⟨h4,h5,h6⟩,hq1⟩:=ih (o+s) (fun i=>Q (i+1)) h (fun i o' s' hi=>hp (i+1) o' s' (by simpa using hi))
   have hl0:as0.length=s:=by rw[h1];simp;omega
   refine⟨as0++as1,⟨by simp[hl0,h4];omega,fun c hc=>(List.mem_append.1 hc).elim (h2 c) (h5 c),fun j a v ha hv=>?_⟩,fun i o' s' hi=>?_⟩
   ·rw[List.getElem?_drop] at hv
    by_cases hj:j<s
    ·rw[List.getElem?_append_left (by omega)] at ha
     exact h3 j a v ha (by rw[List.getElem?_take_of_lt hj,List.getElem?_drop];exact hv)
    ·rw[List.getElem?_append_right (by omega),hl0] at ha
     exact h6 (j - s) a v ha (by rw[List.getElem?_drop,← hv];congr 1;omega)
   ·cases i with
    | zero =>
     simp at hi
     obtain⟨rfl,rfl⟩:=hi
     refine⟨Nat.le_refl _,?_⟩
     rw[Nat.sub_self,List.drop_zero,List.take_append_of_le_length (by omega),List.take_of_length_le (by omega)]
     exact hq
    | succ i =>
     obtain⟨h7,h8⟩:=hq1 i o' s' (by simpa using hi)
     refine⟨by omega,?_⟩
     have:o' - o=s+(o' - (o+s)):=by omega
     have hd:List.drop (s+(o' - (o+s))) as0=[]:=List.drop_eq_nil_of_le (by omega)
     rw[this,List.drop_append,hd,hl0,List.nil_append,show s+(o' - (o+s)) - s=o' - (o+s) from by omega]
     exact h8
  ·cases h
theorem Xh {t:TypeId} {cs:List AV} {x:AV} (h:Dv P t cs=some x) (ho:∀ c∈cs,c.one=true):x.cells=cs:=by
 unfold Dv at h
 split at h
 ·injection h with h;subst h;rfl
 ·split at h
  ·injection h with h;subst h
   rename_i c
   have:=ho c (by simp)
   cases c <;> first | rfl | (simp[AV.one] at this)
  ·cases h
 ·cases h
theorem AMU {S:List TypeId} (hS:Ym P S=true):∀ (fuel:Nat) (t:TypeId) (cs:List Value) (x:DataW H × List MemPlace),t∈S→DataW.trod enc P W base spare held fuel t cs=some x→∃ as_,KV W as_ cs∧Wt P t as_∧cs.length=P.cellsOf t:=by
 intro fuel
 induction fuel with
 | zero=>intro t cs x _ h;simp[DataW.trod] at h
 | succ fuel ih =>
  intro t cs x ht h
  have hp:=List.all_eq_true.1 hS t ht
  have one1:∀ (a:AV) (v:Value),a.one=true→Rep gE W a v→KV W [a] [v]:=fun a v ho hr=>⟨rfl,by simpa using ho,fun j a' v' h1 h2=>by
   cases j with
   | zero=>simp at h1 h2;subst h1 h2;exact hr
   | succ j=>simp at h1⟩
  split at hp
  ·rename_i hu
   obtain⟨b,rfl,_⟩:=DataW.trod_bool hu h
   exact⟨_,one1 _ _ rfl (.atom (.bool b) rfl),.bool t b hu,by simp at hp ⊢;exact hp.symm⟩
  ·rename_i k hu
   obtain⟨n,rfl,_,hw⟩:=DataW.trod_int hu h
   exact⟨_,one1 _ _ rfl (.atom (.int k n) rfl),.int t k n hu (by simpa [Lit.wf] using hw),by simp at hp ⊢;exact hp.symm⟩
  ·rename_i hu
   obtain⟨s,rfl,_,hw⟩:=DataW.trod_string hu h
   exact⟨_,one1 _ _ rfl (.atom (.string s) rfl),.string t s hu hw,by simp at hp ⊢;exact hp.symm⟩
  ·rename_i e hu
   simp only[Bool.and_eq_true,decide_eq_true_eq,List.contains_iff_mem,beq_iff_eq] at hp
   obtain⟨⟨he,hz⟩,hct⟩:=hp
   rcases DataW.trod_slice hu h with⟨rfl,_⟩|⟨a,len,cap,elems,rest,n,hn,rfl,_,hb,hl,hm,hlen,hel,_,_⟩
   ·exact⟨_,one1 _ _ rfl (.nil .foreign none 0 (fun id h=>by cases h) (fun h=>by cases h)),.slice t e [] hu (by simp) (by simp) (by simp),by simp[hct]⟩
   ·obtain rfl:fuel=n:=by omega
    -- the elements
    have each:∀ i,i<len→∃ (cs:List Value) (as_:List AV),W.cells? base (a.add (i * P.cellsOf e)) (P.cellsOf e)=some cs∧KV W as_ cs∧Wt P e as_∧cs.length=P.cellsOf e:=by
     intro i hi
     have h1:=hel i hi
     obtain⟨y,hy⟩:∃ y,elems[i]?=some y:=⟨_,List.getElem?_eq_getElem (by omega)⟩
     rw[hy,Option.bind_eq_some_iff] at h1
     obtain⟨cs,h2,h3⟩:=h1
     obtain⟨as_,h4,h5,h6⟩:=ih e cs y he h3
     exact⟨cs,as_,h2,h4,h5,h6⟩
    have fm:∀ cs,Wt P e cs→∃ x,Dv P e cs=some x:=by
     intro cs hw
     unfold Dv DC
     cases hw with
     | bool t b ht=>rw[ht];exact⟨_,rfl⟩
     | int t k n ht _=>rw[ht];exact⟨_,rfl⟩
     | string t s ht _=>rw[ht];exact⟨_,rfl⟩
     | slice t e es ht _ _ _=>rw[ht];exact⟨_,rfl⟩
     | struct t fs cs ht _ _=>rw[ht];exact⟨_,rfl⟩
     | array t e n cs ht _ _=>rw[ht];exact⟨_,rfl⟩
    have each2:∀ i,∃ x:AV,i<len→∃ cs,W.cells? base (a.add (i * P.cellsOf e)) (P.cellsOf e)=some cs∧KV W x.cells cs∧Wt P e x.cells∧Dv P e x.cells=some x∧x.cells.length=P.cellsOf e:=by
     intro i
     by_cases hi:i<len
     ·obtain⟨cs,as_,h1,h2,h3,h4⟩:=each i hi
      obtain⟨x,hx⟩:=fm as_ h3
      have hxc:=Xh hx h2.2.1
      exact⟨x,fun _=>⟨cs,h1,by rw[hxc];exact h2,by rw[hxc];exact h3,by rw[hxc];exact hx,by rw[hxc,h2.1,h4]⟩⟩
     ·exact⟨.undef,fun h=>absurd h hi⟩
    obtain⟨el,hel2⟩:=Classical.axiomOfChoice each2
    have hes:∀ (i:Nat) (x:AV),((List.range len).map el)[i]?=some x→i<len∧x=el i:=by
     intro i x hx
     rw[List.getElem?_map] at hx
     cases hr:(List.range len)[i]? with
     | none=>rw[hr] at hx;cases hx
     | some j =>
      rw[hr] at hx;injection hx with hx
      obtain⟨h1,h2⟩:=List.getElem?_eq_some_iff.1 hr
      simp at h1 h2;subst h2;exact⟨h1,hx.symm⟩
    have hmem:∀ x∈(List.range len).map el,∃ i,i<len∧x=el i:=by
     intro x hx
     obtain⟨i,hi,rfl⟩:=List.mem_map.1 hx
     exact⟨i,by simpa using hi,rfl⟩
    refine⟨[.slice .foreign ((List.range len).map el)],one1 _ _ rfl ?_,.slice t e _ hu (by simp;omega) (fun x hx=>?_) (fun x hx=>?_),by simp[hct]⟩
    ·by_cases h0:len=0
     ·subst h0;exact .nil .foreign _ _ (fun id h=>by cases h) (fun h=>by cases h)
     ·have hspot:a.spot=none:=by
       obtain⟨cs,h1,h2,_,_,h3⟩:=hel2 0 (by omega)
       have hcl:0<cs.length:=by rw[← h2.1,h3];exact hz
       have h4:=(cells?_get h1).2 0 _ (List.getElem?_eq_getElem hcl)
       unfold World.cell? at h4
       split at h4
       ·split at h4
        ·cases h4
        ·rename_i hs
         obtain⟨b,o,sp⟩:=a
         cases sp with
         | none=>rfl
         | some s=>simp[Addr.add] at hs
       ·cases h4
      obtain⟨b,o,sp⟩:=a
      dsimp only at hspot
      subst hspot
      have hlm:((List.range len).map el).length=len:=by simp
      have key:Rep gE W (.slice .foreign ((List.range len).map el)) (.slice (some ⟨b,o,none⟩) ((List.range len).map el).length cap):=by
       refine Rep.slice_mk hz (fun x hx=>?_) (fun _=>APd _ _) (fun i x hx=>?_) (by rw[hlm];exact hl) trivial
       ·obtain⟨i,hi,rfl⟩:=hmem x hx
        obtain⟨cs,_,_,_,_,h3⟩:=hel2 i hi
        exact h3
       ·obtain⟨hi,rfl⟩:=hes i x hx
        obtain⟨cs,h1,h2,_,_,h3⟩:=hel2 i hi
        refine⟨h2.2.1,fun j c hj=>?_⟩
        have hlt:j<cs.length:=by rw[← h2.1];exact(List.getElem?_eq_some_iff.1 hj).1
        have h4:=(cells?_get h1).2 j _ (List.getElem?_eq_getElem hlt)
        rw[DV,DV] at h4
        exact⟨_,h4,h2.2.2 j c _ hj (List.getElem?_eq_getElem hlt)⟩
      rw[hlm] at key
      exact key
    ·obtain⟨i,hi,rfl⟩:=hmem x hx
     obtain⟨cs,_,_,h3,_,_⟩:=hel2 i hi
     exact h3
    ·obtain⟨i,hi,rfl⟩:=hmem x hx
     obtain⟨cs,_,_,_,h3,_⟩:=hel2 i hi
     exact h3
  ·rename_i fs hu
   simp only[Bool.and_eq_true,beq_iff_eq] at hp
   obtain⟨hp1,hp2⟩:=hp
   obtain⟨xs,n,hn,_,hl,hxl,hf⟩:=DataW.trod_struct hu h
   obtain rfl:fuel=n:=by omega
   obtain⟨as_,h1,h2⟩:=ALd (w:=W) hl _ 0 (fun i as_=>∀ f,fs[i]?=some f→Wt P f.type as_) hp2 (fun i o s hi=>by
    rw[List.getElem?_map] at hi
    cases hfi:fs.toList[i]? with
    | none=>rw[hfi] at hi;cases hi
    | some f =>
     rw[hfi] at hi;injection hi with hi;injection hi with e1 e2;subst e1 e2
     have hfi':fs[i]?=some f:=by simpa using hfi
     have h3:=hf i f hfi'
     obtain⟨y,hy⟩:∃ y,xs[i]?=some y:=⟨_,List.getElem?_eq_getElem (by rw[hxl];exact(Array.getElem?_eq_some_iff.1 hfi').1)⟩
     rw[hy] at h3
     have hmem:f.type∈S:=by
      rw[← Array.all_toList] at hp1
      simpa using List.all_eq_true.1 hp1 f (List.mem_of_getElem? hfi)
     obtain⟨as_,h4,h5,h6⟩:=ih _ _ _ hmem h3
     exact⟨as_,h4,fun f' hf'=>by rw[hfi'] at hf';injection hf' with hf';subst hf';exact h5⟩)
   refine⟨as_,by simpa using h1,.struct t fs as_ hu (by rw[h1.1];simpa using hl) (fun i f hfi=>?_),hl⟩
   have:=(h2 i f.offset (P.cellsOf f.type) (by simp[hfi])).2 f hfi
   simpa using this
  ·rename_i m e hu
   simp only[Bool.and_eq_true,beq_iff_eq,List.contains_iff_mem] at hp
   obtain⟨hp1,hp2⟩:=hp
   obtain⟨xs,n,hn,_,hl,hxl,hf⟩:=DataW.trod_array hu h
   obtain rfl:fuel=n:=by omega
   obtain⟨as_,h1,h2⟩:=ALd (w:=W) hl _ 0 (fun i as_=>Wt P e as_) hp2 (fun i o s hi=>by
    rw[List.getElem?_map] at hi
    cases hfi:(List.range m)[i]? with
    | none=>rw[hfi] at hi;cases hi
    | some j =>
     rw[hfi] at hi;injection hi with hi;injection hi with e1 e2;subst e1 e2
     obtain⟨q1,q2⟩:=List.getElem?_eq_some_iff.1 hfi
     simp at q1 q2;subst q2
     have h3:=hf i q1
     obtain⟨y,hy⟩:∃ y,xs[i]?=some y:=⟨_,List.getElem?_eq_getElem (by omega)⟩
     rw[hy] at h3
     obtain⟨as_,h4,h5,h6⟩:=ih _ _ _ hp1 h3
     exact⟨as_,h4,h5⟩)
   refine⟨as_,by simpa using h1,.array t e m as_ hu (by rw[h1.1];simpa using hl) (fun i hi=>?_),hl⟩
   have:=(h2 i (i * P.cellsOf e) (P.cellsOf e) (by simp[hi])).2
   simpa using this
  ·cases hp
theorem SZ {S:List TypeId} (hS:Ym P S=true) {t:TypeId} {v:Value} {d:DataW H} {ps:List MemPlace} (ht:t∈S) (hval:Value.okWide P W r b0 t v) (hd:DataW.Trod enc P W base spare held t v d ps):∃ a as_,Rep gE W a v∧Wt P t as_∧Dv P t as_=some a:=by
 obtain⟨fuel,hf⟩:=hd
 obtain⟨as_,⟨h1,h2,h3⟩,h4,h5⟩:=AMU hS fuel t _ _ ht hf
 have single:(∀ cs,v≠.agg cs)→(∀ cs,v≠.tuple cs)→v.cells = #[v]:=by
  intro ha hb
  cases v <;> first | rfl | (exact absurd rfl (ha _)) | (exact absurd rfl (hb _))
 have hp:=List.all_eq_true.1 hS t ht
 unfold Value.okWide at hval
 cases hu:P.underlying t with
 | none=>rw[hu] at hp;cases hp
 | some dsc =>
  have agg:(∃ cs,v=.agg cs∧cs.size=P.cellsOf t∧Row.okWide P W r b0 t cs)→DC P t=some true→∃ a as_,Rep gE W a v∧Wt P t as_∧Dv P t as_=some a:=by
   rintro⟨cs,rfl,hsz,_⟩ hag
   refine⟨.agg as_,as_,.agg as_ cs (by rw[h1];simp[Value.cells]) h2 (fun j c u hj hu=>h3 j c u hj (by simpa [Value.cells] using hu)),h4,?_⟩
   unfold Dv
   rw[hag]
  have one1:DC P t=some false→P.cellsOf t=1→(∃ u,v.cells = #[u]∧u=v)→∃ a as_,Rep gE W a v∧Wt P t as_∧Dv P t as_=some a:=by
   rintro hag hct ⟨u,hu,rfl⟩
   have hl:as_.length=1:=by rw[h1,hu];rfl
   obtain⟨a,rfl⟩:∃ a,as_=[a]:=by
    match as_,hl with
    | [a],_=>exact⟨a,rfl⟩
   refine⟨a,[a],h3 0 a u rfl (by rw[hu];rfl),h4,?_⟩
   unfold Dv
   rw[hag]
  have scal:DC P t=some false→Cell.okWide P W r b0 t v→P.cellsOf t=1→∃ a as_,Rep gE W a v∧Wt P t as_∧Dv P t as_=some a:=by
   intro hag hc hct
   have no:∀ cs,v≠.agg cs∧v≠.tuple cs:=by
    intro cs
    refine⟨fun e=>?_,fun e=>?_⟩ <;>
    ·subst e
     simp only[Cell.okWide,Cell.ok,hu] at hc
   exact one1 hag hct ⟨v,single (fun cs=>(no cs).1) (fun cs=>(no cs).2),rfl⟩
  rw[hu] at hval hp
  have hs:∀ b,(match dsc with | .struct _=>true | .array _ _=>true | _=>false)=b→DC P t=some b:=by
   intro b hb
   unfold DC
   simp only[hu]
   cases dsc <;> simp_all
  cases dsc <;> first | (cases hp;done) | (exact agg hval (hs _ rfl)) | skip
  ·exact scal (hs _ rfl) hval (by simpa using hp)
  ·exact scal (hs _ rfl) hval (by simpa using hp)
  ·exact scal (hs _ rfl) hval (by simpa using hp)
  ·simp only[Bool.and_eq_true,beq_iff_eq] at hp;exact scal (hs _ rfl) hval hp.2
end
end
section
def Fk (P:Program) (t:TypeId):Option (List (TypeId × Nat × Nat)):=match P.underlying t with
 | some (.struct fs)=>some (fs.toList.map fun f=>(f.type,f.offset,P.cellsOf f.type))
 | _=>none
theorem Wt.int_inv {P:Program} {t:TypeId} {k:IntKind} {cs:List AV} (ht:P.underlying t=some (.int k)) (h:Wt P t cs):∃ n,cs=[.atom (.int k n)]∧k.min≤n∧n≤k.max:=by
 cases h <;> rename_i h1 <;> simp_all
theorem Wt.bool_inv {P:Program} {t:TypeId} {cs:List AV} (ht:P.underlying t=some .bool) (h:Wt P t cs):∃ b,cs=[.bool b]:=by
 cases h <;> rename_i h1 <;> simp_all
theorem Wt.slice_inv {P:Program} {t e:TypeId} {cs:List AV} (ht:P.underlying t=some (.slice e)) (h:Wt P t cs):∃ es,cs=[.slice .foreign es]∧es.length≤maxLen∧(∀ x∈es,Wt P e x.cells)∧∀ x∈es,Dv P e x.cells=some x:=by
 cases h <;> rename_i h1 <;> simp_all
theorem Wt.struct_inv {P:Program} {t:TypeId} {cs:List AV} {l:List (TypeId × Nat × Nat)} (ht:Fk P t=some l) (h:Wt P t cs):cs.length=P.cellsOf t∧∀ (i:Nat) (ty off sz:Nat),l[i]?=some (ty,off,sz)→Wt P ty ((cs.drop off).take sz):=by
 unfold Fk at ht
 split at ht
 ·rename_i fs hu
  injection ht with ht;subst ht
  cases h <;> rename_i h1 <;> simp_all
  rename_i h2
  intro i ty off sz x hx e1 e2 e3
  subst e1 e2 e3
  exact h2 i x hx
 ·cases ht
theorem CN {α:Type} {cs:List α} {n:Nat} (h:cs.length=n+1):∃ c tl,cs=c :: tl∧tl.length=n:=by
 cases cs with
 | nil=>simp at h
 | cons c tl=>exact⟨c,tl,rfl,by simpa using h⟩
theorem Wt.i64 {P:Program} {t:TypeId} {c:AV} (ht:P.underlying t=some (.int .i64)) (h:Wt P t [c]):∃ n,c=.i64 n:=by
 obtain⟨n,hn,_⟩:=h.int_inv ht
 injection hn with hn;exact⟨n,hn⟩
theorem Wt.b {P:Program} {t:TypeId} {c:AV} (ht:P.underlying t=some .bool) (h:Wt P t [c]):∃ n,c=.bool n:=by
 obtain⟨n,hn⟩:=h.bool_inv ht
 injection hn with hn;exact⟨n,hn⟩
theorem Qg {P:Program} {e:TypeId} {α:Type} {f:α→AV} {G:α→Prop} (hagg:∀ x,Dv P e (f x).cells=some (f x)) {es:List AV} (h2:∀ x∈es,∃ y,x.cells=(f y).cells∧G y) (h3:∀ x∈es,Dv P e x.cells=some x):∃ l:List α,es=l.map f∧∀ x∈l,G x:=by
 induction es with
 | nil=>exact⟨[],rfl,by simp⟩
 | cons e es ih =>
  obtain⟨l,rfl,hl⟩:=ih (fun x hx=>h2 x (List.mem_cons_of_mem _ hx)) fun x hx=>h3 x (List.mem_cons_of_mem _ hx)
  obtain⟨x,hx,gx⟩:=h2 e (by simp)
  have:=h3 e (by simp)
  rw[hx,hagg] at this
  injection this with this
  exact⟨x :: l,by rw[← this];rfl,fun y hy=>(List.mem_cons.1 hy).elim (fun h=>h ▸ gx) (hl y)⟩
theorem PB {P:Program} {t:TypeId} {fs:Array Field} {l:List (TypeId × Nat × Nat)} {i ty off sz:Nat} (ht:Fk P t=some l) (hu:P.underlying t=some (.struct fs)) (hi:l[i]?=some (ty,off,sz)):∃ f,fs[i]?=some f∧f.type=ty∧f.offset=off∧P.cellsOf f.type=sz:=by
 unfold Fk at ht
 rw[hu] at ht
 injection ht with ht;subst ht
 simp at hi
 obtain⟨f,hf,h1,h2,h3⟩:=hi
 exact⟨f,hf,h1,h2,h3⟩
theorem XD {P:Program} {t:TypeId} {l:List (TypeId × Nat × Nat)} (ht:Fk P t=some l):∃ fs,P.underlying t=some (.struct fs):=by
 unfold Fk at ht
 split at ht
 ·exact⟨_,by assumption⟩
 ·cases ht
theorem AEG {n:Int} (h1:IntKind.u64.min≤n) (h2:n≤IntKind.u64.max):AV.u64 n=.w (BitVec.ofNat 64 n.toNat):=by
 have e1:IntKind.u64.min=0:=by decide
 have e2:IntKind.u64.max=18446744073709551615:=by decide
 rw[e1] at h1;rw[e2] at h2
 simp only[AV.w,BitVec.toNat_ofNat]
 congr 2;omega
theorem Wt.w {P:Program} {t:TypeId} {c:AV} (ht:P.underlying t=some (.int .u64)) (h:Wt P t [c]):∃ s,c=.w s:=by
 obtain⟨n,hn,h1,h2⟩:=h.int_inv ht
 injection hn with hn;subst hn
 exact⟨_,AEG h1 h2⟩
theorem Wi {P:Program} {t:TypeId} {cs:List AV} {a:AV} (h1:DC P t=some true) (h2:Dv P t cs=some a):a=.agg cs:=by
 unfold Dv at h2
 rw[h1] at h2
 injection h2 with h2;exact h2.symm
theorem Uv {P:Program} {t:TypeId} {cs:List AV} (h:DC P t=some true):Dv P t (AV.agg cs).cells=some (.agg cs):=by
 unfold Dv
 rw[h];rfl
theorem ADL {P:Program} {t:TypeId} {a:AV} (h:DC P t=some false) (hc:a.cells=[a]):Dv P t a.cells=some a:=by
 unfold Dv
 rw[h,hc]
end
section
theorem ALH {cs:List AV} (h:Wt Tryz.prog 22 cs):∃ l:List Int,cs=[.slice .foreign (l.map AV.i64)]∧l.length<9223372036854775808:=by
 obtain⟨es,hn,h1,h2,h3⟩:=h.slice_inv (show Tryz.prog.underlying 22=some (.slice 3) by kernel_rfl)
 subst hn
 have hd:∀ cs,Wt Tryz.prog 3 cs→∃ y,cs=(AV.i64 y).cells∧True:=fun cs hc=>let ⟨x,hx,_⟩:=hc.int_inv (show Tryz.prog.underlying 3=some (.int .i64) by kernel_rfl);⟨x,hx,trivial⟩
 obtain⟨l,rfl,_⟩:=Qg (P:=Tryz.prog) (f:=AV.i64) (G:=fun _=>True) (fun x=>ADL (by kernel_rfl) rfl) (fun x hx=>hd _ (h2 x hx)) h3
 exact⟨l,rfl,by simp[maxLen] at h1;omega⟩
theorem VX:Fk Tryz.prog 63=some [(4,0,1),(2,1,1)]:=by kernel_rfl
theorem Vb {cs:List AV} (h:Wt Tryz.prog 63 cs):∃ x:BV,cs=x.C:=by
 obtain⟨hl,hf⟩:=h.struct_inv VX
 rw[show Tryz.prog.cellsOf 63=2 by kernel_rfl] at hl
 obtain⟨c0,d0,rfl,hn0⟩:=CN hl
 obtain⟨c1,d1,rfl,hn1⟩:=CN hn0
 obtain rfl:=List.length_eq_zero_iff.1 hn1
 obtain⟨v0,rfl⟩:=Wt.b (show Tryz.prog.underlying 4=some (.bool) by kernel_rfl) (show Wt Tryz.prog 4 [c0] from hf 0 _ _ _ rfl)
 obtain⟨v1,rfl⟩:=Wt.i64 (show Tryz.prog.underlying 2=some (.int .i64) by kernel_rfl) (show Wt Tryz.prog 2 [c1] from hf 1 _ _ _ rfl)
 exact⟨⟨v0,v1⟩,rfl⟩
theorem Xk:Fk Tryz.prog 65=some [(3,0,1),(3,1,1),(3,2,1),(63,3,2)]:=by kernel_rfl
theorem PJ {cs:List AV} (h:Wt Tryz.prog 65 cs):∃ x:BE,cs=x.C:=by
 obtain⟨hl,hf⟩:=h.struct_inv Xk
 rw[show Tryz.prog.cellsOf 65=5 by kernel_rfl] at hl
 obtain⟨c0,d0,rfl,hn0⟩:=CN hl
 obtain⟨c1,d1,rfl,hn1⟩:=CN hn0
 obtain⟨c2,d2,rfl,hn2⟩:=CN hn1
 obtain⟨c3,d3,rfl,hn3⟩:=CN hn2
 obtain⟨c4,d4,rfl,hn4⟩:=CN hn3
 obtain rfl:=List.length_eq_zero_iff.1 hn4
 obtain⟨v0,rfl⟩:=Wt.i64 (show Tryz.prog.underlying 3=some (.int .i64) by kernel_rfl) (show Wt Tryz.prog 3 [c0] from hf 0 _ _ _ rfl)
 obtain⟨v1,rfl⟩:=Wt.i64 (show Tryz.prog.underlying 3=some (.int .i64) by kernel_rfl) (show Wt Tryz.prog 3 [c1] from hf 1 _ _ _ rfl)
 obtain⟨v2,rfl⟩:=Wt.i64 (show Tryz.prog.underlying 3=some (.int .i64) by kernel_rfl) (show Wt Tryz.prog 3 [c2] from hf 2 _ _ _ rfl)
 obtain⟨v3,hv3⟩:=Vb (show Wt Tryz.prog 63 [c3,c4] from hf 3 _ _ _ rfl);simp only[BV.C,List.cons.injEq,and_true] at hv3;obtain⟨rfl,rfl⟩:=hv3
 exact⟨⟨v0,v1,v2,v3⟩,rfl⟩
theorem LR:Fk Tryz.prog 67=some [(3,0,1),(3,1,1),(3,2,1),(65,3,5),(65,8,5),(24,13,1)]:=by kernel_rfl
theorem WH {t:TypeId} {cs:List AV} (h:Wt Tryz.prog t cs):(t=67→∃ x:AB,cs=x.C)∧(t=24→∃ xs:List AB,cs=[.slice .foreign (xs.map AB.av)]∧xs.length<9223372036854775808):=by
 obtain⟨fs,hfs⟩:=XD LR
 have hs24:Tryz.prog.underlying 24=some (.slice 67):=by kernel_rfl
 induction h with
 | bool t b ht=>exact⟨fun h=>by(subst h;rw[hfs] at ht;cases ht),fun h=>by(subst h;rw[hs24] at ht;cases ht)⟩
 | int t b n ht=>exact⟨fun h=>by(subst h;rw[hfs] at ht;cases ht),fun h=>by(subst h;rw[hs24] at ht;cases ht)⟩
 | string t b ht=>exact⟨fun h=>by(subst h;rw[hfs] at ht;cases ht),fun h=>by(subst h;rw[hs24] at ht;cases ht)⟩
 | array t b n cs ht=>exact⟨fun h=>by(subst h;rw[hfs] at ht;cases ht),fun h=>by(subst h;rw[hs24] at ht;cases ht)⟩
 | slice t e es ht hl h hf ih =>
  refine⟨fun h=>by(subst h;rw[hfs] at ht;cases ht),fun h=>?_⟩
  ·subst h
   rw[hs24] at ht
   injection ht with ht;injection ht with ht;subst ht
   obtain⟨l,rfl,_⟩:=Qg (P:=Tryz.prog) (f:=AB.av) (G:=fun _=>True) (fun x=>by rw[AB.av_eq];exact Uv (by kernel_rfl)) (fun x hx=>let ⟨y,hy⟩:=(ih x hx).1 rfl;⟨y,by rw[hy,AB.av_eq];rfl,trivial⟩) hf
   exact⟨l,rfl,by simp[maxLen] at hl;omega⟩
 | struct t fs' cs ht hl h ih =>
  refine⟨fun e=>?_,fun h=>by(subst h;rw[hs24] at ht;cases ht)⟩
  subst e
  obtain⟨_,hf⟩:=(Wt.struct _ _ _ ht hl h).struct_inv LR
  obtain⟨f5,g1,g2,g3,g4⟩:=PB (i:=5) LR ht rfl
  have hr5:=(ih 5 f5 g1).2 g2
  rw[g3,g4] at hr5
  clear g1 g2 g3 g4
  clear ih h
  rw[show Tryz.prog.cellsOf 67=14 by kernel_rfl] at hl
  obtain⟨c0,d0,rfl,hn0⟩:=CN hl
  obtain⟨c1,d1,rfl,hn1⟩:=CN hn0
  obtain⟨c2,d2,rfl,hn2⟩:=CN hn1
  obtain⟨c3,d3,rfl,hn3⟩:=CN hn2
  obtain⟨c4,d4,rfl,hn4⟩:=CN hn3
  obtain⟨c5,d5,rfl,hn5⟩:=CN hn4
  obtain⟨c6,d6,rfl,hn6⟩:=CN hn5
  obtain⟨c7,d7,rfl,hn7⟩:=CN hn6
  obtain⟨c8,d8,rfl,hn8⟩:=CN hn7
  obtain⟨c9,d9,rfl,hn9⟩:=CN hn8
  obtain⟨c10,d10,rfl,hn10⟩:=CN hn9
  obtain⟨c11,d11,rfl,hn11⟩:=CN hn10
  obtain⟨c12,d12,rfl,hn12⟩:=CN hn11
  obtain⟨c13,d13,rfl,hn13⟩:=CN hn12
  obtain rfl:=List.length_eq_zero_iff.1 hn13
  obtain⟨v0,rfl⟩:=Wt.i64 (show Tryz.prog.underlying 3=some (.int .i64) by kernel_rfl) (show Wt Tryz.prog 3 [c0] from hf 0 _ _ _ rfl)
  obtain⟨v1,rfl⟩:=Wt.i64 (show Tryz.prog.underlying 3=some (.int .i64) by kernel_rfl) (show Wt Tryz.prog 3 [c1] from hf 1 _ _ _ rfl)
  obtain⟨v2,rfl⟩:=Wt.i64 (show Tryz.prog.underlying 3=some (.int .i64) by kernel_rfl) (show Wt Tryz.prog 3 [c2] from hf 2 _ _ _ rfl)
  obtain⟨v3,hv3⟩:=PJ (show Wt Tryz.prog 65 [c3,c4,c5,c6,c7] from hf 3 _ _ _ rfl);simp only[BE.C,List.cons.injEq,and_true] at hv3;obtain⟨rfl,rfl,rfl,rfl,rfl⟩:=hv3
  obtain⟨v4,hv4⟩:=PJ (show Wt Tryz.prog 65 [c8,c9,c10,c11,c12] from hf 4 _ _ _ rfl);simp only[BE.C,List.cons.injEq,and_true] at hv4;obtain⟨rfl,rfl,rfl,rfl,rfl⟩:=hv4
  obtain⟨v5,ev5,_⟩:=hr5
  have ev5:[c13]=_:=ev5
  injection ev5 with ev5;subst ev5
  exact⟨⟨v0,v1,v2,v3,v4,v5⟩,rfl⟩
theorem AEb {cs:List AV} (h:Wt Tryz.prog 24 cs):∃ l:List AB,cs=[.slice .foreign (l.map AB.av)]∧l.length<9223372036854775808:=(WH h).2 rfl
theorem LW:Fk Tryz.prog 26=some [(3,0,1),(3,1,1),(23,2,1),(24,3,1),(4,4,1)]:=by kernel_rfl
theorem VR {t:TypeId} {cs:List AV} (h:Wt Tryz.prog t cs):(t=26→∃ x:AA,cs=x.C)∧(t=23→∃ xs:List AA,cs=[.slice .foreign (xs.map AA.av)]∧xs.length<9223372036854775808):=by
 obtain⟨fs,hfs⟩:=XD LW
 have hs23:Tryz.prog.underlying 23=some (.slice 26):=by kernel_rfl
 induction h with
 | bool t b ht=>exact⟨fun h=>by(subst h;rw[hfs] at ht;cases ht),fun h=>by(subst h;rw[hs23] at ht;cases ht)⟩
 | int t b n ht=>exact⟨fun h=>by(subst h;rw[hfs] at ht;cases ht),fun h=>by(subst h;rw[hs23] at ht;cases ht)⟩
 | string t b ht=>exact⟨fun h=>by(subst h;rw[hfs] at ht;cases ht),fun h=>by(subst h;rw[hs23] at ht;cases ht)⟩
 | array t b n cs ht=>exact⟨fun h=>by(subst h;rw[hfs] at ht;cases ht),fun h=>by(subst h;rw[hs23] at ht;cases ht)⟩
 | slice t e es ht hl h hf ih =>
  refine⟨fun h=>by(subst h;rw[hfs] at ht;cases ht),fun h=>?_⟩
  ·subst h
   rw[hs23] at ht
   injection ht with ht;injection ht with ht;subst ht
   obtain⟨l,rfl,_⟩:=Qg (P:=Tryz.prog) (f:=AA.av) (G:=fun _=>True) (fun x=>by rw[AA.av_eq];exact Uv (by kernel_rfl)) (fun x hx=>let ⟨y,hy⟩:=(ih x hx).1 rfl;⟨y,by rw[hy,AA.av_eq];rfl,trivial⟩) hf
   exact⟨l,rfl,by simp[maxLen] at hl;omega⟩
 | struct t fs' cs ht hl h ih =>
  refine⟨fun e=>?_,fun h=>by(subst h;rw[hs23] at ht;cases ht)⟩
  subst e
  obtain⟨_,hf⟩:=(Wt.struct _ _ _ ht hl h).struct_inv LW
  obtain⟨f2,g1,g2,g3,g4⟩:=PB (i:=2) LW ht rfl
  have hr2:=(ih 2 f2 g1).2 g2
  rw[g3,g4] at hr2
  clear g1 g2 g3 g4
  clear ih h
  rw[show Tryz.prog.cellsOf 26=5 by kernel_rfl] at hl
  obtain⟨c0,d0,rfl,hn0⟩:=CN hl
  obtain⟨c1,d1,rfl,hn1⟩:=CN hn0
  obtain⟨c2,d2,rfl,hn2⟩:=CN hn1
  obtain⟨c3,d3,rfl,hn3⟩:=CN hn2
  obtain⟨c4,d4,rfl,hn4⟩:=CN hn3
  obtain rfl:=List.length_eq_zero_iff.1 hn4
  obtain⟨v0,rfl⟩:=Wt.i64 (show Tryz.prog.underlying 3=some (.int .i64) by kernel_rfl) (show Wt Tryz.prog 3 [c0] from hf 0 _ _ _ rfl)
  obtain⟨v1,rfl⟩:=Wt.i64 (show Tryz.prog.underlying 3=some (.int .i64) by kernel_rfl) (show Wt Tryz.prog 3 [c1] from hf 1 _ _ _ rfl)
  obtain⟨v2,ev2,_⟩:=hr2
  have ev2:[c2]=_:=ev2
  injection ev2 with ev2;subst ev2
  obtain⟨v3,e,_⟩:=AEb (show Wt Tryz.prog 24 [c3] from hf 3 _ _ _ rfl);injection e with e;subst e
  obtain⟨v4,rfl⟩:=Wt.b (show Tryz.prog.underlying 4=some (.bool) by kernel_rfl) (show Wt Tryz.prog 4 [c4] from hf 4 _ _ _ rfl)
  exact⟨⟨v0,v1,v2,v3,v4⟩,rfl⟩
theorem XL {cs:List AV} (h:Wt Tryz.prog 26 cs):∃ x:AA,cs=x.C:=(VR h).1 rfl
theorem Vw:Fk Tryz.prog 28=some [(22,0,1),(26,1,5)]:=by kernel_rfl
theorem VN {cs:List AV} (h:Wt Tryz.prog 28 cs):∃ x:Ba,cs=x.C:=by
 obtain⟨hl,hf⟩:=h.struct_inv Vw
 rw[show Tryz.prog.cellsOf 28=6 by kernel_rfl] at hl
 obtain⟨c0,d0,rfl,hn0⟩:=CN hl
 obtain⟨c1,d1,rfl,hn1⟩:=CN hn0
 obtain⟨c2,d2,rfl,hn2⟩:=CN hn1
 obtain⟨c3,d3,rfl,hn3⟩:=CN hn2
 obtain⟨c4,d4,rfl,hn4⟩:=CN hn3
 obtain⟨c5,d5,rfl,hn5⟩:=CN hn4
 obtain rfl:=List.length_eq_zero_iff.1 hn5
 obtain⟨v0,e,_⟩:=ALH (show Wt Tryz.prog 22 [c0] from hf 0 _ _ _ rfl);injection e with e;subst e
 obtain⟨v1,hv1⟩:=XL (show Wt Tryz.prog 26 [c1,c2,c3,c4,c5] from hf 1 _ _ _ rfl);simp only[AA.C,List.cons.injEq,and_true] at hv1;obtain⟨rfl,rfl,rfl,rfl,rfl⟩:=hv1
 exact⟨⟨v0,v1⟩,rfl⟩
theorem XU:Fk Tryz.prog 98=some [(3,0,1),(24,1,1),(40,2,1),(40,3,1),(40,4,1)]:=by kernel_rfl
theorem Xg {cs:List AV} (h:Wt Tryz.prog 98 cs):∃ x:AD,cs=x.C:=by
 obtain⟨hl,hf⟩:=h.struct_inv XU
 rw[show Tryz.prog.cellsOf 98=5 by kernel_rfl] at hl
 obtain⟨c0,d0,rfl,hn0⟩:=CN hl
 obtain⟨c1,d1,rfl,hn1⟩:=CN hn0
 obtain⟨c2,d2,rfl,hn2⟩:=CN hn1
 obtain⟨c3,d3,rfl,hn3⟩:=CN hn2
 obtain⟨c4,d4,rfl,hn4⟩:=CN hn3
 obtain rfl:=List.length_eq_zero_iff.1 hn4
 obtain⟨v0,rfl⟩:=Wt.i64 (show Tryz.prog.underlying 3=some (.int .i64) by kernel_rfl) (show Wt Tryz.prog 3 [c0] from hf 0 _ _ _ rfl)
 obtain⟨v1,e,_⟩:=AEb (show Wt Tryz.prog 24 [c1] from hf 1 _ _ _ rfl);injection e with e;subst e
 obtain⟨v2,rfl⟩:=Wt.w (show Tryz.prog.underlying 40=some (.int .u64) by kernel_rfl) (show Wt Tryz.prog 40 [c2] from hf 2 _ _ _ rfl)
 obtain⟨v3,rfl⟩:=Wt.w (show Tryz.prog.underlying 40=some (.int .u64) by kernel_rfl) (show Wt Tryz.prog 40 [c3] from hf 3 _ _ _ rfl)
 obtain⟨v4,rfl⟩:=Wt.w (show Tryz.prog.underlying 40=some (.int .u64) by kernel_rfl) (show Wt Tryz.prog 40 [c4] from hf 4 _ _ _ rfl)
 exact⟨⟨v0,v1,v2,v3,v4⟩,rfl⟩
theorem ALV {cs:List AV} (h:Wt Tryz.prog 29 cs):∃ l:List AD,cs=[.slice .foreign (l.map AD.av)]∧l.length<9223372036854775808:=by
 obtain⟨es,hn,h1,h2,h3⟩:=h.slice_inv (show Tryz.prog.underlying 29=some (.slice 98) by kernel_rfl)
 subst hn
 have hd:∀ cs,Wt Tryz.prog 98 cs→∃ y,cs=(AD.av y).cells∧True:=fun cs hc=>let ⟨x,hx⟩:=Xg hc;⟨x,by first | (rw[hx,AD.av_eq];rfl) | (rw[hx];rfl),trivial⟩
 obtain⟨l,rfl,_⟩:=Qg (P:=Tryz.prog) (f:=AD.av) (G:=fun _=>True) (fun x=>by first | (rw[AD.av_eq];exact Uv (by kernel_rfl)) | exact Uv (cs:=AD.C x) (by kernel_rfl)) (fun x hx=>hd _ (h2 x hx)) h3
 exact⟨l,rfl,by simp[maxLen] at h1;omega⟩
theorem AEW {cs:List AV} (h:Wt Tryz.prog 30 cs):∃ l:List AC,cs=[.slice .foreign (l.map AV.w)]∧l.length<9223372036854775808:=by
 obtain⟨es,hn,h1,h2,h3⟩:=h.slice_inv (show Tryz.prog.underlying 30=some (.slice 40) by kernel_rfl)
 subst hn
 have hd:∀ cs,Wt Tryz.prog 40 cs→∃ y,cs=(AV.w y).cells∧True:=fun cs hc=>let ⟨n,hx,h1,h2⟩:=hc.int_inv (show Tryz.prog.underlying 40=some (.int .u64) by kernel_rfl);⟨BitVec.ofNat 64 n.toNat,by rw[hx,← AEG h1 h2];rfl,trivial⟩
 obtain⟨l,rfl,_⟩:=Qg (P:=Tryz.prog) (f:=AV.w) (G:=fun _=>True) (fun x=>ADL (by kernel_rfl) rfl) (fun x hx=>hd _ (h2 x hx)) h3
 exact⟨l,rfl,by simp[maxLen] at h1;omega⟩
theorem WM:Fk Tryz.prog 32=some [(30,0,1),(30,1,1)]:=by kernel_rfl
theorem VV {cs:List AV} (h:Wt Tryz.prog 32 cs):∃ x:Bb,cs=x.C:=by
 obtain⟨hl,hf⟩:=h.struct_inv WM
 rw[show Tryz.prog.cellsOf 32=2 by kernel_rfl] at hl
 obtain⟨c0,d0,rfl,hn0⟩:=CN hl
 obtain⟨c1,d1,rfl,hn1⟩:=CN hn0
 obtain rfl:=List.length_eq_zero_iff.1 hn1
 obtain⟨v0,e,_⟩:=AEW (show Wt Tryz.prog 30 [c0] from hf 0 _ _ _ rfl);injection e with e;subst e
 obtain⟨v1,e,_⟩:=AEW (show Wt Tryz.prog 30 [c1] from hf 1 _ _ _ rfl);injection e with e;subst e
 exact⟨⟨v0,v1⟩,rfl⟩
theorem UO:Fk Tryz.prog 34=some [(3,0,1),(29,1,1),(32,2,2)]:=by kernel_rfl
theorem VG {cs:List AV} (h:Wt Tryz.prog 34 cs):∃ x:Ae,cs=x.C:=by
 obtain⟨hl,hf⟩:=h.struct_inv UO
 rw[show Tryz.prog.cellsOf 34=4 by kernel_rfl] at hl
 obtain⟨c0,d0,rfl,hn0⟩:=CN hl
 obtain⟨c1,d1,rfl,hn1⟩:=CN hn0
 obtain⟨c2,d2,rfl,hn2⟩:=CN hn1
 obtain⟨c3,d3,rfl,hn3⟩:=CN hn2
 obtain rfl:=List.length_eq_zero_iff.1 hn3
 obtain⟨v0,rfl⟩:=Wt.i64 (show Tryz.prog.underlying 3=some (.int .i64) by kernel_rfl) (show Wt Tryz.prog 3 [c0] from hf 0 _ _ _ rfl)
 obtain⟨v1,e,_⟩:=ALV (show Wt Tryz.prog 29 [c1] from hf 1 _ _ _ rfl);injection e with e;subst e
 obtain⟨v2,hv2⟩:=VV (show Wt Tryz.prog 32 [c2,c3] from hf 2 _ _ _ rfl);simp only[Bb.C,List.cons.injEq,and_true] at hv2;obtain⟨rfl,rfl⟩:=hv2
 exact⟨⟨v0,v1,v2⟩,rfl⟩
end
end Go.Proofs.YtjnnhjgjecgomaaGreat.G
namespace Go.Proofs.YtjnnhjgjecgomaaGreat.DpsubTells
open Go.ChangeShapes Go.WideShapes Go.ChangeAt Go.RowKit Go.Proofs.YtjnnhjgjecgomaaGreat.G
theorem own:ownKnob Tryz.prog.godebug=none:=by kernel_rfl
theorem AA8:laidOutB Tryz.prog=true:=by kernel_rfl
set_option maxRecDepth 100000 in
theorem AKo (os:Os) (started:os.Started) (H:Type) (enc:TypeId × Value→H) :
  ReturnsInHanded {} Tryz.checked os 4 .any (Rows.dpsubTellsSpec.pre6 enc Tryz.prog Tryz.f4 Rows.dpsubTellsRow.domain false) (Rows.dpsubTellsSpec.post enc Tryz.prog Tryz.f4 false true false false):=by
 refine returnsInHanded_of_change_sized (C:=Tryz.checked) own started (by kernel_rfl) Tryz.func4
  (ChangeSpec.witness6 (enc:=enc) (C:=Tryz.checked) false ⟨#[],#[.agg #[.slice none 0 0,.int .i64 0,.int .i64 0,.slice none 0 0,.slice none 0 0,.bool false],.agg #[.int .i64 0,.slice none 0 0,.slice none 0 0,.slice none 0 0]],[]⟩ 30 (by kernel_rfl) (by kernel_rfl) (by kernel_rfl) (by kernel_rfl)) ?_
 intro W base args ds gs before hval0 hW hcnd hsz0 _
 have hval:∀ (j:Nat) t v,Tryz.f4.params[j]?=some t→args[j]?=some v→Value.okWide Tryz.prog W .any base t v:=hval0
 have hW':=hW
 obtain⟨p,q,hA0,hV,rfl,hfz,hnd⟩:=hW
 have hA:DataW.TrodAll enc Tryz.prog W 0 (fun _=>true) true Tryz.f4.params.toList args.toList ds p:=hA0
 rw[Tryz.params4] at hA hval
 obtain⟨u0,vs0,d0,ds0,p0,q0,hargs,rfl,rfl,h0,r0⟩:=trodAll_cons hA
 obtain⟨u1,vs1,d1,ds1,p1,q1,rfl,rfl,rfl,h1,r1⟩:=trodAll_cons r0
 obtain⟨rfl,rfl,rfl⟩:=trodAll_nil r1
 obtain rfl:args = #[u0,u1]:=by cases args;simp_all
 obtain⟨rfl,rfl⟩:=trodVars_none hV
 have lt0:∀ x∈p0,x.block<W.heap.size:=by obtain⟨m,hm⟩:=h0;exact DataW.trod_lt m _ _ _ hm
 have lt1:∀ x∈p1,x.block<W.heap.size:=by obtain⟨m,hm⟩:=h1;exact DataW.trod_lt m _ _ _ hm
 have hS:Ym Tryz.prog [28,22,3,26,23,24,67,65,63,4,2,34,29,98,40,32,30]=true:=by kernel_rfl
 obtain⟨a0,as0,rep0,wt0,of0⟩:=SZ hS (by simp) (hval 0 28 u0 rfl rfl) h0
 obtain⟨a1,as1,rep1,wt1,of1⟩:=SZ hS (by simp) (hval 1 34 u1 rfl rfl) h1
 obtain rfl:=Wi (by kernel_rfl) of0
 obtain⟨x0,rfl⟩:=VN wt0
 obtain rfl:=Wi (by kernel_rfl) of1
 obtain⟨x1,rfl⟩:=VG wt1
 refine((En.w.w (x0,x1) true (So x0 x1)).law (fun q hq=>by cases hq) (.cons rep0 (.cons rep1 .nil))).mono fun e W' ⟨he,bel⟩=>?_
 subst he
 exact⟨_,rfl,_,_,_,[],_,[],hW',trodAll_mk1 (shut_bool Tryz.underlying4 _),(trodAll_cons_mk (Below.trod AA8 (by kernel_rfl) (of_decide_eq_true (by kernel_rfl)) h0 bel lt0) (trodAll_cons_mk (Below.trod AA8 (by kernel_rfl) (of_decide_eq_true (by kernel_rfl)) h1 bel lt1) trodAll_mk0)),rfl,bel.frame _,fun h=>by cases h⟩
theorem over:Rows.dpsubTellsRow.holds Tryz.pinned (OpenSpec.ofChange Rows.dpsubTellsSpec) :=
 OpenClaim.holds_of_wide 4 Tryz.f4 rfl rfl rfl rfl rfl rfl rfl ⟨rfl,rfl,rfl,rfl,rfl⟩ rfl rfl rfl rfl rfl (by kernel_rfl) Tryz.func4 (by kernel_rfl)
  (of_decide_eq_true (by kernel_rfl)) (by unfold Func.isWrapper;first | (rw[if_pos (by decide +kernel)];kernel_rfl) | (rw[if_neg (by decide +kernel)];exact⟨rfl,rfl⟩))
  (fun os started H enc _=>AKo os started H enc)
end Go.Proofs.YtjnnhjgjecgomaaGreat.DpsubTells
namespace Go.Proofs.YtjnnhjgjecgomaaGreat
theorem dpsubTells_holds:Rows.DpsubTellsSaid:=DpsubTells.over
end Go.Proofs.YtjnnhjgjecgomaaGreat
