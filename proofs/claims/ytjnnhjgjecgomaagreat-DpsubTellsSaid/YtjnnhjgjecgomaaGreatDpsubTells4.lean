/-
Part 4 of the proof of DpsubTells: merged by mkclaim.py (a program of this repo) out of texts of wip/g and printed models.
-/
import Derived.Test.YtjnnhjgjecgomaaGreatDpsubTells3
import Derived.Test.YtjnnhjgjecgomaaGreatProg
import Derived.KernelRfl
set_option linter.unusedVariables false
set_option linter.unusedSectionVars false
set_option linter.unusedSimpArgs false
set_option maxRecDepth 100000
set_option maxHeartbeats 8000000
namespace Go.Proofs.YtjnnhjgjecgomaaGreat.G
section
def UV [Mu] (P:Program) (pr:Nat × List Nat) (Q:AM→Prop) (k:Nat) (l:List Fc) (pend:List Nat) (dst:Option Tmp) (v:LV) (L1:AM) (pd:List Nat):Prop:=GG P pr Q (k+1) l (pd++pend) (FR L1 dst v)
def LGo [Mu] (P:Program) (pr:Nat × List Nat) (Q:AM→Prop) (k:Nat) (o:Fc) (l:List Fc) (pend:List Nat) (L:AM) (w:Option Bool):Prop :=
 lgo w (MU ((!pr.2.contains k || LI o.op)&&swG pr.2 k L o.op) (LOp P o.op o.dst (Uh pr k pend) L (UV P pr Q k l pend o.dst))) (GG P pr Q (k+1) l pend (FR L o.dst (.v .undef)))
def ABW [Mu] (P:Program) (f:FuncId) (lo:Option Nat) (c:FM) (a b:ID) (Q:Exit→AM→Prop) (L:AM) (x:Option LV):Prop:=YC (LC P f lo c a Q L) (LC P f lo c b Q L) x
def AEF (id:Nat) (Q:Exit→AM→Prop) (e:Exit) (L:AM):Prop:=Q (KS id e) L
def Gk (s:Option Nat) (d:Nat) (src:Option (Nat × Nat)) (es ys:List AV) (L:AM) (K:LV→AM→List Nat→Prop):Prop :=
 match s with
 | some s=>match src with
  | none=>K (.own d s (es++ys)) (EZ d d L) []
  | some (i,s')=>s=s'∧K (.own d s (es++ys)) (EZ i d L) []
 | none=>False
variable [Mu]
section
variable {P:Program} {f:FuncId} {lo:Option Nat} {c:FM} {pr:Nat × List Nat} {k n:Nat} {Q:AM→Prop} {R:Exit→AM→Prop} {o:Fc} {l:List Fc} {L L1:AM} {pend pd:List Nat} {a b:ID} {K:LV→AM→List Nat→Prop} {d fv:AV} {as_:List AV} {dst:Option Tmp} {v:LV}
theorem AGW:GG P pr Q k [] pend L=Q L:=rfl
theorem AEN:GG P pr Q k (o :: l) pend L=LGo P pr Q k o l pend L (Nd L o):=rfl
theorem ADs:UV P pr Q k l pend dst v L1 []=GG P pr Q (k+1) l pend (FR L1 dst v):=rfl
theorem AEn {x:Nat}:UV P pr Q k l pend dst v L1 (x :: pd)=GG P pr Q (k+1) l (x :: pd++pend) (FR L1 dst v):=rfl
theorem AF5:LGo P (n,[]) Q k o l pend L (some true)=LOp P o.op o.dst ⟨decide (k<n),pend,false⟩ L (UV P (n,[]) Q k l pend o.dst):=propext ⟨fun h=>h.2,fun h=>⟨rfl,h⟩⟩
theorem AF6 {x:Nat} {ls:List Nat}:LGo P (n,x :: ls) Q k o l pend L (some true)=MU ((!(x :: ls).contains k || LI o.op)&&swG (x :: ls) k L o.op) (LOp P o.op o.dst ⟨decide (k<n),pend,(x :: ls).contains k⟩ L (UV P (n,x :: ls) Q k l pend o.dst)):=rfl
theorem ADE:LGo P pr Q k o l pend L (some false)=GG P pr Q (k+1) l pend (FR L o.dst (.v .undef)):=rfl
theorem ABc {g:FuncId} {first cap las:List LA} {z:Option (List AV)} {pos:Fu}:Ty P (some (g,first,cap)) (some las) z pos L K=Nv P g (first++las++cap) pos L K:=rfl
theorem ABk {g:FuncId} {as_:List AV} {pos:Fu}:Ty P (some (g,[],[])) none (some as_) pos L K=ALG P g as_ L K:=rfl
theorem AAL {t:TypeId} {l:List (Nat × AV)} {y:Option (List (Nat × List CV))}:Pk P t (some l) y L K=Gj (Gi L (HO P t l)) K:=rfl
theorem AAd {t:TypeId} {l:List (Nat × List CV)}:Pk P t none (some l) L K=Gj ((Lz P t l).map fun cs=>(.ag cs,OU L cs,[])) K:=rfl
theorem ADP:Gj (some (v,L1,pd)) K=K v L1 pd:=rfl
theorem AKJ:LC P f lo c (.seq a b) R L=LC P f lo c a (RI (LC P f lo c b R) R) L:=rfl
theorem AHi {t:Tmp}:LC P f lo c (.cond t a b) R L=ABW P f lo c a b R L (AI L.S t):=rfl
theorem AFr {id:Nat}:LC P f lo c (.block id a) R L=LC P f lo c a (AEF id R) L:=rfl
theorem AHs:LC P f lo c .skip R L=R .normal L:=rfl
theorem AIA {id:Nat}:LC P f lo c (.exit id) R L=R (.exit id) L:=rfl
theorem AK0:LC P f lo c .ret R L=R .ret L:=rfl
theorem AJM {i:Nat}:LC P f lo c (.loop i) R L=AJ P f lo c i R L:=rfl
theorem AEo {ops:List Fc}:LC P f lo c (.region none ops) R L=GG P (0,[]) (R .normal) 0 ops [] L:=rfl
theorem AIl {ops:List Fc} {id:Nat}:LC P f lo c (.region (some id) ops) R L=GG P (lrp P f id) (R .normal) 0 ops [] L:=rfl
theorem YQ {X:AM→Prop}:RI X R .normal L=X L:=rfl
theorem AEy {X:AM→Prop}:RI X R .ret L=R .ret L:=rfl
theorem AB7 {X:AM→Prop} {id:Nat}:RI X R (.exit id) L=R (.exit id) L:=rfl
theorem ABN {id:Nat} {x:Exit}:AEF id R x L=R (KS id x) L:=rfl
theorem ABx:ABW P f lo c a b R L (some (.v (.atom (.bool true))))=LC P f lo c a R L:=rfl
theorem AAP:ABW P f lo c a b R L (some (.v (.atom (.bool false))))=LC P f lo c b R L:=rfl
theorem ADH {rs:List ResultVar} {r:AV}:Oj P rs r Q .ret L=(MR r ((rs.mapM fun x=>(Ci P L x).bind LV.rd).map FJ)∧Q L):=rfl
theorem ADK {r:AV}:MR r (some d)=(d.fz=r):=rfl
theorem ZQ {t xt:TypeId} {es ys:List AV} {o:Own} {dd:Nat} {e:Bool} (hm:muT P t=false):Gj (Hr P t xt (.v (.slice .full es)) (.slice o ys) (some dd) e L) K=Gk (IB P t xt es ys) (dd % 50000000) none es ys L K:=by
 simp only[Hr,Gk,hm,vOf,Bool.false_eq_true,false_and,if_false]
 cases IB P t xt es ys <;> rfl
theorem XW {t xt:TypeId} {es ys:List AV} {o:Own} {dd:Nat} {e:Bool} (hm:muT P t=true) (hn:(es.isEmpty || !ys.isEmpty)=true):Gj (Hr P t xt (.v (.slice .full es)) (.slice o ys) (some dd) e L) K=Gk (IB P t xt es ys) (50000000+dd % 40000000) none es ys L K:=by
 simp only[Hr,Gk,hm,hn,vOf,if_true,Bool.false_eq_true,Bool.true_eq_false,or_self,and_false,if_false]
 cases IB P t xt es ys <;> rfl
theorem AAD {t xt:TypeId} {es ys:List AV} {o:Own} {dd i s:Nat} (hm:(isV i == muT P t&&!isB i)=true):Gj (Hr P t xt (.own i s es) (.slice o ys) (some dd) false L) K=Gk (IB P t xt es ys) (vOf (muT P t) dd) (some (i,s)) es ys L K:=by
 simp only[Bool.and_eq_true,Bool.not_eq_true'] at hm
 have hb:=hm.2
 have hm:=eq_of_beq hm.1
 simp only[Hr,Gk,hm,hb,Bool.false_eq_true,if_false,ne_eq,not_true_eq_false,or_self]
 cases IB P t xt es ys with
 | none=>rfl
 | some s' =>
  simp only[Option.bind_some]
  by_cases h:s'=s
  ·subst h;rw[if_pos rfl];exact propext ⟨fun g=>⟨rfl,g⟩,fun g=>g.2⟩
  ·rw[if_neg h];exact propext ⟨fun g=>g.elim,fun g=>absurd g.1 h⟩
theorem ABd {t:TypeId} {t' off:Nat} {late:Bool}:Tw P t (.lref t' off) late L=(match AI L.N t' with
  | some cs=>if isMp cs=true then none else(VO P t cs off).map (·,L,if late=true then [t'] else [])
  | none=>none):=rfl
theorem ABL {t:TypeId} {e:AV} {off:Nat} {late:Bool}:Tw P t (.v (.eptr e off)) late L=(Fa P t e.cells off).map (.v ·,L,[]):=rfl
theorem ABT {t:TypeId} {i s k off:Nat} {late:Bool}:Tw P t (.vref i s k off) late L=if late=true then none else(match La i L with
  | some (s',es)=>if s'≠s∨isV i=false then none else(es[k]?).bind fun e=>(Fa P t e.cells off).map (.v ·,L,[])
  | none=>none):=rfl
theorem AAe {t:TypeId} {t' off:Nat} {y:LV} {pos:Fu}:Mb P t (.lref t' off) y pos L=(match AI L.N t',Av P t with
  | some cs,some n=>(y.cells).bind fun ys=>if isMp cs=false∧decide (t'<DQ)=true∧pos.early=false∧pos.pend.contains t'=false∧ys.length=n∧off+n≤cs.length then some (.v .undef,Dq L t' (Jx cs off ys),[]) else none
  | _,_=>none):=rfl
theorem YL {t t':Nat} {k:AV} {ok:Bool}:Nr P t (.mref t') k ok false L=(Oo P t).bind fun q=>(ON P q.1).bind fun kd=>(OV k).bind fun kv=>((AI L.N t').bind OS).bind fun es=>(KA kd kv es 0).bind fun r=>(LK P q.2 ok r).map (.v ·,L,[]):=rfl
theorem ZE {t t':Nat} {k y:AV} {pos:Fu}:KZ P t (.mref t') k y pos L=if decide (t'<DQ)=true∧pos.early=false∧pos.pend.contains t'=false∧Bj y=true then(Oo P t).bind fun q=>(ON P q.1).bind fun kd=>(OV k).bind fun kv=>((AI L.N t').bind OS).bind fun es=>(KA kd kv es 0).map fun r=>(.v .undef,Dq L t' [.mp (NS es kv y.strip r)],[]) else none:=rfl
theorem ACV {d:Nat}:Ug (some d) L=if(decide (d<DQ)&&FO d L)=true then some (.mref d,Dq L d [.mp []],[]) else none:=rfl
@[go_sem] theorem AME (t:TypeId):@Bk muNone t=false:=rfl
theorem ACD {rs:List ResultVar} {r:AV}:DO P rs r Q .ret L=(MR r ((rs.mapM fun x=>(Ci P L x).bind LV.rdF).map FJ)∧Q L):=rfl
attribute [go_sem ↓] ACD XW
attribute [go_sem] LV.rdF CV.rdF vOf isV isB CV.upd LV.upd Zs YJ KM My Nw RO Ts La Option.or Nat.reduceMod List.isEmpty_nil List.isEmpty_cons Bool.or_true Bool.true_or Bool.not_false Bool.not_true List.contains_nil List.contains_cons
theorem Gk.map {α:Type} {F:α→AV} {t el s b dd i:Nat} {xs ys:List α} {es zs:List AV} (h1:Bn P t=some el) (h3:Av P el=some s) (h4:ER P el=some b) (h5:Dh P el=some s) (hc:(decide (0<s)&&decide (0<b))=true) (hF:∀ x,(F x).cells.length=s) (hes:es=xs.map F) (hzs:zs=ys.map F) (hlen:(xs.length+ys.length) * b≤140737488355328)
  (h:K (.own dd s ((xs++ys).map F)) (EZ i dd L) []):Gk (IB P t t es zs) dd (some (i,s)) es zs L K:=by
 subst hes hzs
 simp only[Bool.and_eq_true,decide_eq_true_eq] at hc
 have hcond:0<s∧0<b∧Dh P el=some s∧((xs.map F).length+(ys.map F).length) * b≤Fd∧(∀ e∈xs.map F,e.cells.length=s)∧(∀ e∈ys.map F,e.cells.length=s) :=
  ⟨hc.1,hc.2,h5,by(show _ * b≤140737488355328);simpa using hlen,fun e he=>by obtain⟨x,_,rfl⟩:=List.mem_map.1 he;exact hF x,fun e he=>by obtain⟨x,_,rfl⟩:=List.mem_map.1 he;exact hF x⟩
 unfold IB
 simp only[h1,h3,h4]
 rw[if_pos hcond]
 simp only[Gk]
 rw[← List.map_append]
 exact⟨trivial,h⟩
theorem Gk.mapFull {α:Type} {F:α→AV} {t el s b dd:Nat} {xs ys:List α} {es zs:List AV} (h1:Bn P t=some el) (h3:Av P el=some s) (h4:ER P el=some b) (h5:Dh P el=some s) (hc:(decide (0<s)&&decide (0<b))=true) (hF:∀ x,(F x).cells.length=s) (hes:es=xs.map F) (hzs:zs=ys.map F) (hlen:(xs.length+ys.length) * b≤140737488355328)
  (h:K (.own dd s ((xs++ys).map F)) (EZ dd dd L) []):Gk (IB P t t es zs) dd none es zs L K:=by
 subst hes hzs
 simp only[Bool.and_eq_true,decide_eq_true_eq] at hc
 have hcond:0<s∧0<b∧Dh P el=some s∧((xs.map F).length+(ys.map F).length) * b≤Fd∧(∀ e∈xs.map F,e.cells.length=s)∧(∀ e∈ys.map F,e.cells.length=s) :=
  ⟨hc.1,hc.2,h5,by(show _ * b≤140737488355328);simpa using hlen,fun e he=>by obtain⟨x,_,rfl⟩:=List.mem_map.1 he;exact hF x,fun e he=>by obtain⟨x,_,rfl⟩:=List.mem_map.1 he;exact hF x⟩
 unfold IB
 simp only[h1,h3,h4]
 rw[if_pos hcond]
 simp only[Gk]
 rw[← List.map_append]
 exact h
theorem AGY {g:Operand} {ps:Array Tmp} {i j:Nat}:LC P f lo c (.range g ps i j) R L=Ku P f lo c g ps i j R L:=rfl
theorem AHw {S:List (Nat × LV)} {N:List (Nat × List CV)} {t:Nat}:FR ⟨S,N⟩ (some t) v=⟨(t,v) :: S,N⟩:=rfl
theorem AE5:FR L none v=L:=rfl
theorem AH6 {S:List (Nat × LV)} {N:List (Nat × List CV)} {t:Nat} {cs:List CV}:Dq ⟨S,N⟩ t cs=⟨S,(t,cs) :: N⟩:=rfl
theorem AF2 {S:List (Nat × LV)} {N:List (Nat × List CV)} {i j:Nat}:EZ i j ⟨S,N⟩=⟨RC i j S,RQ i j N⟩:=rfl
end
attribute [go_sem ↓] AGW AEN ADs AEn AF5 AF6 ADE ABc ABk AAL AAd ADP AKJ AHi AFr AHs AIA AK0 AJM AEo AIl AGY YQ AEy AB7 ABN ABx AAP ADH ADK ZQ AAD LOp
attribute [go_sem] lArgsF Lw CV.toB Np Lz OU AJ0 Nat.reduceSub
attribute [go_sem] swG OT Ob Nat.reduceBEq Nat.reduceAdd Bool.and_true Bool.true_and Bool.not_false Bool.not_true Bool.or_true Bool.true_or Bool.false_or
attribute [go_sem] AHw AE5 AH6 AF2
attribute [go_sem] Nd lop Yf AI Oh CV.rd LV.rd LV.val LV.any leval levalC LV.cmpv levalR levalA levals levalsA lparts lopt LV.cells CV.val ZL CV.lv VO Jx LA.free LAs.free CV.free CVs.free LV.free VC Tz FO CV.kill LV.kill RC RQ ABd ABL ABT AAe YL ZE ACV isMp CV.isMp OS OQ OD ABz Gi JR AGf TD TG Ci AV.fz LI Ox DQ LV.la LV.la1 LV.la2 LA.val WS AG9 LV.fun_
attribute [go_sem] RD vw vwC Oc vwS vwN sg FN MP rn JZ Pp LA.ren LAs.ren CV.ren keepB isSome Do JW GL killAll EO Em List.all_cons List.all_nil
inductive Lp (S R:Type) where
 | brk (s:S)
 | ret (r:R)
def AX {α:Type} (l:List α) (i:Int):Option α:=if 0≤i then l[i.toNat]? else none
theorem Dw {α:Type} {l:List α} {i:Int} {x:α} (h:AX l i=some x):0≤i∧l[i.toNat]?=some x:=by
 unfold AX at h
 split at h
 ·exact⟨by assumption,h⟩
 ·cases h
def w64 (x:Int):Int:=IntKind.i64.wrap x
@[go_sem] theorem ARD (x:Int):IntKind.i64.wrap x=w64 x:=rfl
def room {α:Type} (b:Nat) (xs ys:List α):Option (List α):=if(xs.length+ys.length) * b≤140737488355328 then some (xs++ys) else none
theorem Jq {α:Type} {b:Nat} {xs ys zs:List α} (h:room b xs ys=some zs):(xs.length+ys.length) * b≤140737488355328∧zs=xs++ys:=by
 unfold room at h
 split at h
 ·injection h with h;exact⟨by assumption,h.symm⟩
 ·cases h
theorem Zg {α:Type} {c:Prop} [Decidable c] {x:Option α} {r:α} (h:(if c then x else none)=some r):c∧x=some r:=by
 split at h
 ·exact⟨by assumption,h⟩
 ·cases h
end
section
theorem mix:Tryz.prog.follows .mixedOrders=true:=by kernel_rfl
@[go_sem] theorem AQp:Av Tryz.prog 2=some 1:=by kernel_rfl
@[go_sem] theorem AQz:DC Tryz.prog 2=some false:=by kernel_rfl
@[go_sem] theorem AR4:Tryz.prog.underlying 2=some (.int .i64):=by kernel_rfl
@[go_sem] theorem AA5:Av Tryz.prog 3=some 1:=by kernel_rfl
@[go_sem] theorem Zy:ER Tryz.prog 3=some 8:=by kernel_rfl
@[go_sem] theorem ARY:DC Tryz.prog 3=some false:=by kernel_rfl
@[go_sem] theorem AR6:Tryz.prog.underlying 3=some (.int .i64):=by kernel_rfl
@[go_sem] theorem AP2:DE Tryz.prog 3=some [.atom (.int .i64 0)]:=by kernel_rfl
@[go_sem] theorem ZT:Dh Tryz.prog 3=some 1:=by kernel_rfl
@[go_sem] theorem AQD:Av Tryz.prog 4=some 1:=by kernel_rfl
@[go_sem] theorem ARb:DC Tryz.prog 4=some false:=by kernel_rfl
@[go_sem] theorem AR5:Tryz.prog.underlying 4=some .bool:=by kernel_rfl
@[go_sem] theorem APk:Av Tryz.prog 22=some 1:=by kernel_rfl
@[go_sem] theorem AQL:DC Tryz.prog 22=some false:=by kernel_rfl
@[go_sem] theorem Yb:Bn Tryz.prog 22=some 3:=by kernel_rfl
@[go_sem] theorem ARv:Tryz.prog.underlying 22=some (.slice 3):=by kernel_rfl
@[go_sem] theorem AQm:Ec Tryz.prog 22=none:=by kernel_rfl
@[go_sem] theorem APh:DE Tryz.prog 22=some [.slice .full []]:=by kernel_rfl
@[go_sem] theorem AOD:Av Tryz.prog 23=some 1:=by kernel_rfl
@[go_sem] theorem AQY:DC Tryz.prog 23=some false:=by kernel_rfl
@[go_sem] theorem AGm:Bn Tryz.prog 23=some 26:=by kernel_rfl
@[go_sem] theorem AR3:Tryz.prog.underlying 23=some (.slice 26):=by kernel_rfl
@[go_sem] theorem AQI:Ec Tryz.prog 23=none:=by kernel_rfl
@[go_sem] theorem APC:Av Tryz.prog 24=some 1:=by kernel_rfl
@[go_sem] theorem AQV:DC Tryz.prog 24=some false:=by kernel_rfl
@[go_sem] theorem Yn:Bn Tryz.prog 24=some 67:=by kernel_rfl
@[go_sem] theorem AR0:Tryz.prog.underlying 24=some (.slice 67):=by kernel_rfl
@[go_sem] theorem APq:Ec Tryz.prog 24=none:=by kernel_rfl
@[go_sem] theorem AFo:Av Tryz.prog 26=some 5:=by kernel_rfl
@[go_sem] theorem AD3:ER Tryz.prog 26=some 72:=by kernel_rfl
@[go_sem] theorem AQX:DC Tryz.prog 26=some true:=by kernel_rfl
@[go_sem] theorem AOq:DE Tryz.prog 26=some [.atom (.int .i64 0),.atom (.int .i64 0),.slice .full [],.slice .full [],.atom (.bool false)]:=by kernel_rfl
@[go_sem] theorem ACz:Dh Tryz.prog 26=some 5:=by kernel_rfl
@[go_sem] theorem APp:Ec Tryz.prog 26=none:=by kernel_rfl
@[go_sem] theorem AM0:EL Tryz.prog 26=some [(0,1),(1,1),(2,1),(3,1),(4,1)]:=by kernel_rfl
@[go_sem] theorem ARm:BI Tryz.prog 26 0=some (3,0):=by kernel_rfl
@[go_sem] theorem AQv:BI Tryz.prog 26 1=some (3,1):=by kernel_rfl
@[go_sem] theorem ARV:BI Tryz.prog 26 2=some (23,2):=by kernel_rfl
@[go_sem] theorem ARo:BI Tryz.prog 26 3=some (24,3):=by kernel_rfl
@[go_sem] theorem ARW:BI Tryz.prog 26 4=some (4,4):=by kernel_rfl
@[go_sem] theorem AOa:Av Tryz.prog 28=some 6:=by kernel_rfl
@[go_sem] theorem AQJ:DC Tryz.prog 28=some true:=by kernel_rfl
@[go_sem] theorem ARQ:BI Tryz.prog 28 0=some (22,0):=by kernel_rfl
@[go_sem] theorem ARJ:BI Tryz.prog 28 1=some (26,1):=by kernel_rfl
@[go_sem] theorem AO1:Av Tryz.prog 29=some 1:=by kernel_rfl
@[go_sem] theorem AQK:DC Tryz.prog 29=some false:=by kernel_rfl
@[go_sem] theorem AF8:Bn Tryz.prog 29=some 98:=by kernel_rfl
@[go_sem] theorem ARq:Tryz.prog.underlying 29=some (.slice 98):=by kernel_rfl
@[go_sem] theorem AQl:Ec Tryz.prog 29=none:=by kernel_rfl
@[go_sem] theorem APF:Av Tryz.prog 30=some 1:=by kernel_rfl
@[go_sem] theorem AP1:DC Tryz.prog 30=some false:=by kernel_rfl
@[go_sem] theorem AGB:Bn Tryz.prog 30=some 40:=by kernel_rfl
@[go_sem] theorem ARw:Tryz.prog.underlying 30=some (.slice 40):=by kernel_rfl
@[go_sem] theorem AP0:Ec Tryz.prog 30=none:=by kernel_rfl
@[go_sem] theorem AOT:Av Tryz.prog 32=some 2:=by kernel_rfl
@[go_sem] theorem AQP:DC Tryz.prog 32=some true:=by kernel_rfl
@[go_sem] theorem API:DE Tryz.prog 32=some [.slice .full [],.slice .full []]:=by kernel_rfl
@[go_sem] theorem AP9:Ec Tryz.prog 32=none:=by kernel_rfl
@[go_sem] theorem AMO:EL Tryz.prog 32=some [(0,1),(1,1)]:=by kernel_rfl
@[go_sem] theorem AQu:BI Tryz.prog 32 0=some (30,0):=by kernel_rfl
@[go_sem] theorem AQt:BI Tryz.prog 32 1=some (30,1):=by kernel_rfl
@[go_sem] theorem APJ:Av Tryz.prog 34=some 4:=by kernel_rfl
@[go_sem] theorem APy:DC Tryz.prog 34=some true:=by kernel_rfl
@[go_sem] theorem AOP:DE Tryz.prog 34=some [.atom (.int .i64 0),.slice .full [],.slice .full [],.slice .full []]:=by kernel_rfl
@[go_sem] theorem AQG:Ec Tryz.prog 34=none:=by kernel_rfl
@[go_sem] theorem AM3:EL Tryz.prog 34=some [(0,1),(1,1),(2,2)]:=by kernel_rfl
@[go_sem] theorem ARc:BI Tryz.prog 34 0=some (3,0):=by kernel_rfl
@[go_sem] theorem AQs:BI Tryz.prog 34 1=some (29,1):=by kernel_rfl
@[go_sem] theorem AQ7:BI Tryz.prog 34 2=some (32,2):=by kernel_rfl
@[go_sem] theorem AFh:Av Tryz.prog 40=some 1:=by kernel_rfl
@[go_sem] theorem AC2:ER Tryz.prog 40=some 8:=by kernel_rfl
@[go_sem] theorem AQk:DC Tryz.prog 40=some false:=by kernel_rfl
@[go_sem] theorem ARz:Tryz.prog.underlying 40=some (.int .u64):=by kernel_rfl
@[go_sem] theorem APX:DE Tryz.prog 40=some [.atom (.int .u64 0)]:=by kernel_rfl
@[go_sem] theorem AEX:Dh Tryz.prog 40=some 1:=by kernel_rfl
@[go_sem] theorem AOj:Av Tryz.prog 44=some 4:=by kernel_rfl
@[go_sem] theorem AQE:DC Tryz.prog 44=some true:=by kernel_rfl
@[go_sem] theorem AQ5:BI Tryz.prog 44 0=some (3,0):=by kernel_rfl
@[go_sem] theorem ARk:BI Tryz.prog 44 1=some (29,1):=by kernel_rfl
@[go_sem] theorem ARh:BI Tryz.prog 44 2=some (32,2):=by kernel_rfl
@[go_sem] theorem AOY:Av Tryz.prog 46=some 1:=by kernel_rfl
@[go_sem] theorem AQN:DC Tryz.prog 46=some false:=by kernel_rfl
@[go_sem] theorem AO7:Av Tryz.prog 54=some 1:=by kernel_rfl
@[go_sem] theorem AQU:DC Tryz.prog 54=some false:=by kernel_rfl
@[go_sem] theorem APO:DE Tryz.prog 54=some [.atom (.pointer none)]:=by kernel_rfl
@[go_sem] theorem AO4:Av Tryz.prog 63=some 2:=by kernel_rfl
@[go_sem] theorem APt:DC Tryz.prog 63=some true:=by kernel_rfl
@[go_sem] theorem AQC:MG Tryz.prog 63=some [(4,0),(2,1)]:=by kernel_rfl
@[go_sem] theorem ARB:BI Tryz.prog 63 0=some (4,0):=by kernel_rfl
@[go_sem] theorem ARg:BI Tryz.prog 63 1=some (2,1):=by kernel_rfl
@[go_sem] theorem APE:Av Tryz.prog 65=some 5:=by kernel_rfl
@[go_sem] theorem AQa:DC Tryz.prog 65=some true:=by kernel_rfl
@[go_sem] theorem AOy:DE Tryz.prog 65=some [.atom (.int .i64 0),.atom (.int .i64 0),.atom (.int .i64 0),.atom (.bool false),.atom (.int .i64 0)]:=by kernel_rfl
@[go_sem] theorem AQF:Ec Tryz.prog 65=none:=by kernel_rfl
@[go_sem] theorem AMV:EL Tryz.prog 65=some [(0,1),(1,1),(2,1),(3,2)]:=by kernel_rfl
@[go_sem] theorem AQh:MG Tryz.prog 65=some [(3,0),(3,1),(3,2),(63,3)]:=by kernel_rfl
@[go_sem] theorem AN8:Kx Tryz.prog 65=false:=by kernel_rfl
@[go_sem] theorem ART:BI Tryz.prog 65 0=some (3,0):=by kernel_rfl
@[go_sem] theorem ARI:BI Tryz.prog 65 1=some (3,1):=by kernel_rfl
@[go_sem] theorem ARE:BI Tryz.prog 65 2=some (3,2):=by kernel_rfl
@[go_sem] theorem ARN:BI Tryz.prog 65 3=some (63,3):=by kernel_rfl
@[go_sem] theorem ZX:Av Tryz.prog 67=some 14:=by kernel_rfl
@[go_sem] theorem XB:ER Tryz.prog 67=some 128:=by kernel_rfl
@[go_sem] theorem AP5:DC Tryz.prog 67=some true:=by kernel_rfl
@[go_sem] theorem AOi:DE Tryz.prog 67=some [.atom (.int .i64 0),.atom (.int .i64 0),.atom (.int .i64 0),.atom (.int .i64 0),.atom (.int .i64 0),.atom (.int .i64 0),.atom (.bool false),.atom (.int .i64 0),.atom (.int .i64 0),.atom (.int .i64 0),.atom (.int .i64 0),.atom (.bool false),.atom (.int .i64 0),.slice .full []]:=by kernel_rfl
@[go_sem] theorem Wd:Dh Tryz.prog 67=some 14:=by kernel_rfl
@[go_sem] theorem AP3:Ec Tryz.prog 67=none:=by kernel_rfl
@[go_sem] theorem AMj:EL Tryz.prog 67=some [(0,1),(1,1),(2,1),(3,5),(8,5),(13,1)]:=by kernel_rfl
@[go_sem] theorem ARR:BI Tryz.prog 67 0=some (3,0):=by kernel_rfl
@[go_sem] theorem AQ4:BI Tryz.prog 67 1=some (3,1):=by kernel_rfl
@[go_sem] theorem AQ2:BI Tryz.prog 67 2=some (3,2):=by kernel_rfl
@[go_sem] theorem ARK:BI Tryz.prog 67 3=some (65,3):=by kernel_rfl
@[go_sem] theorem AQr:BI Tryz.prog 67 4=some (65,8):=by kernel_rfl
@[go_sem] theorem ARf:BI Tryz.prog 67 5=some (24,13):=by kernel_rfl
@[go_sem] theorem AOW:DE Tryz.prog 68=some [.atom .nilFunc]:=by kernel_rfl
@[go_sem] theorem AON:Av Tryz.prog 68=some 1:=by kernel_rfl
@[go_sem] theorem AQc:DC Tryz.prog 68=some false:=by kernel_rfl
@[go_sem] theorem AOh:Av Tryz.prog 70=some 3:=by kernel_rfl
@[go_sem] theorem AQg:DC Tryz.prog 70=some true:=by kernel_rfl
@[go_sem] theorem APT:DE Tryz.prog 70=some [.atom (.int .i64 0),.slice .full [],.slice .full []]:=by kernel_rfl
@[go_sem] theorem AQA:Ec Tryz.prog 70=none:=by kernel_rfl
@[go_sem] theorem AM6:EL Tryz.prog 70=some [(0,1),(1,1),(2,1)]:=by kernel_rfl
@[go_sem] theorem AQ6:BI Tryz.prog 70 0=some (3,0):=by kernel_rfl
@[go_sem] theorem AQx:BI Tryz.prog 70 1=some (22,1):=by kernel_rfl
@[go_sem] theorem ARi:BI Tryz.prog 70 2=some (24,2):=by kernel_rfl
@[go_sem] theorem APo:Av Tryz.prog 72=some 3:=by kernel_rfl
@[go_sem] theorem APz:DC Tryz.prog 72=some true:=by kernel_rfl
@[go_sem] theorem AO0:DE Tryz.prog 72=some [.atom (.int .i64 0),.slice .full [],.slice .full []]:=by kernel_rfl
@[go_sem] theorem AQQ:Ec Tryz.prog 72=none:=by kernel_rfl
@[go_sem] theorem AMc:EL Tryz.prog 72=some [(0,1),(1,1),(2,1)]:=by kernel_rfl
@[go_sem] theorem ARa:BI Tryz.prog 72 0=some (3,0):=by kernel_rfl
@[go_sem] theorem ARO:BI Tryz.prog 72 2=some (24,2):=by kernel_rfl
@[go_sem] theorem APP:Av Tryz.prog 89=some 1:=by kernel_rfl
@[go_sem] theorem APu:DC Tryz.prog 89=some false:=by kernel_rfl
@[go_sem] theorem YN:Bn Tryz.prog 89=some 96:=by kernel_rfl
@[go_sem] theorem ARt:Tryz.prog.underlying 89=some (.slice 96):=by kernel_rfl
@[go_sem] theorem AQb:Ec Tryz.prog 89=none:=by kernel_rfl
@[go_sem] theorem APH:Av Tryz.prog 90=some 1:=by kernel_rfl
@[go_sem] theorem AQo:DC Tryz.prog 90=some false:=by kernel_rfl
@[go_sem] theorem Zo:Bn Tryz.prog 90=some 101:=by kernel_rfl
@[go_sem] theorem ARr:Tryz.prog.underlying 90=some (.slice 101):=by kernel_rfl
@[go_sem] theorem AQR:Ec Tryz.prog 90=none:=by kernel_rfl
@[go_sem] theorem APj:Av Tryz.prog 92=some 2:=by kernel_rfl
@[go_sem] theorem AP8:DC Tryz.prog 92=some true:=by kernel_rfl
@[go_sem] theorem AOH:DE Tryz.prog 92=some [.slice .full [],.slice .full []]:=by kernel_rfl
@[go_sem] theorem AQZ:Ec Tryz.prog 92=none:=by kernel_rfl
@[go_sem] theorem AMY:EL Tryz.prog 92=some [(0,1),(1,1)]:=by kernel_rfl
@[go_sem] theorem ARU:BI Tryz.prog 92 0=some (89,0):=by kernel_rfl
@[go_sem] theorem ARl:BI Tryz.prog 92 1=some (90,1):=by kernel_rfl
@[go_sem] theorem Yg:Av Tryz.prog 96=some 17:=by kernel_rfl
@[go_sem] theorem Wo:ER Tryz.prog 96=some 152:=by kernel_rfl
@[go_sem] theorem APw:DC Tryz.prog 96=some true:=by kernel_rfl
@[go_sem] theorem AOf:DE Tryz.prog 96=some [.atom (.int .i64 0),.atom (.int .i64 0),.atom (.int .i64 0),.atom (.int .i64 0),.atom (.int .i64 0),.atom (.int .i64 0),.atom (.bool false),.atom (.int .i64 0),.atom (.int .i64 0),.atom (.int .i64 0),.atom (.int .i64 0),.atom (.bool false),.atom (.int .i64 0),.slice .full [],.atom (.int .u64 0),.atom (.int .u64 0),.atom (.int .i64 0)]:=by kernel_rfl
@[go_sem] theorem Wx:Dh Tryz.prog 96=some 17:=by kernel_rfl
@[go_sem] theorem APv:Ec Tryz.prog 96=none:=by kernel_rfl
@[go_sem] theorem AM4:EL Tryz.prog 96=some [(0,14),(14,1),(15,1),(16,1)]:=by kernel_rfl
@[go_sem] theorem ARZ:BI Tryz.prog 96 0=some (67,0):=by kernel_rfl
@[go_sem] theorem ARF:BI Tryz.prog 96 1=some (40,14):=by kernel_rfl
@[go_sem] theorem ARn:BI Tryz.prog 96 2=some (40,15):=by kernel_rfl
@[go_sem] theorem ARG:BI Tryz.prog 96 3=some (3,16):=by kernel_rfl
@[go_sem] theorem AFu:Av Tryz.prog 98=some 5:=by kernel_rfl
@[go_sem] theorem AEx:ER Tryz.prog 98=some 56:=by kernel_rfl
@[go_sem] theorem AQS:DC Tryz.prog 98=some true:=by kernel_rfl
@[go_sem] theorem APW:DE Tryz.prog 98=some [.atom (.int .i64 0),.slice .full [],.atom (.int .u64 0),.atom (.int .u64 0),.atom (.int .u64 0)]:=by kernel_rfl
@[go_sem] theorem AEA:Dh Tryz.prog 98=some 5:=by kernel_rfl
@[go_sem] theorem AQW:Ec Tryz.prog 98=none:=by kernel_rfl
@[go_sem] theorem AM8:EL Tryz.prog 98=some [(0,1),(1,1),(2,1),(3,1),(4,1)]:=by kernel_rfl
@[go_sem] theorem AQ1:BI Tryz.prog 98 0=some (3,0):=by kernel_rfl
@[go_sem] theorem AQy:BI Tryz.prog 98 1=some (24,1):=by kernel_rfl
@[go_sem] theorem AQ9:BI Tryz.prog 98 2=some (40,2):=by kernel_rfl
@[go_sem] theorem ARP:BI Tryz.prog 98 3=some (40,3):=by kernel_rfl
@[go_sem] theorem AQ0:BI Tryz.prog 98 4=some (40,4):=by kernel_rfl
@[go_sem] theorem Wg:Av Tryz.prog 101=some 6:=by kernel_rfl
@[go_sem] theorem UM:ER Tryz.prog 101=some 64:=by kernel_rfl
@[go_sem] theorem AOt:DC Tryz.prog 101=some true:=by kernel_rfl
@[go_sem] theorem ANw:DE Tryz.prog 101=some [.atom (.int .i64 0),.slice .full [],.atom (.int .u64 0),.atom (.int .u64 0),.atom (.int .u64 0),.atom (.int .i64 0)]:=by kernel_rfl
@[go_sem] theorem Us:Dh Tryz.prog 101=some 6:=by kernel_rfl
@[go_sem] theorem AOc:Ec Tryz.prog 101=none:=by kernel_rfl
@[go_sem] theorem AL8:EL Tryz.prog 101=some [(0,1),(1,1),(2,1),(3,1),(4,1),(5,1)]:=by kernel_rfl
@[go_sem] theorem AQi:BI Tryz.prog 101 0=some (3,0):=by kernel_rfl
@[go_sem] theorem AQd:BI Tryz.prog 101 1=some (24,1):=by kernel_rfl
@[go_sem] theorem AQj:BI Tryz.prog 101 2=some (40,2):=by kernel_rfl
@[go_sem] theorem AQO:BI Tryz.prog 101 3=some (40,3):=by kernel_rfl
@[go_sem] theorem APx:BI Tryz.prog 101 4=some (40,4):=by kernel_rfl
@[go_sem] theorem AQf:BI Tryz.prog 101 5=some (3,5):=by kernel_rfl
@[go_sem] theorem AN4:DE Tryz.prog 119=some [.atom .nilFunc]:=by kernel_rfl
@[go_sem] theorem AN5:Av Tryz.prog 119=some 1:=by kernel_rfl
@[go_sem] theorem AOI:DC Tryz.prog 119=some false:=by kernel_rfl
@[go_sem] theorem AN7:Av Tryz.prog 126=some 1:=by kernel_rfl
@[go_sem] theorem APU:DC Tryz.prog 126=some false:=by kernel_rfl
@[go_sem] theorem ANp:DE Tryz.prog 128=some [.atom (.int .i64 0),.slice .full [],.slice .full [],.slice .full [],.atom (.map none)]:=by kernel_rfl
@[go_sem] theorem AMB:EL Tryz.prog 128=some [(0,4),(4,1)]:=by kernel_rfl
@[go_sem] theorem AP7:BI Tryz.prog 128 0=some (34,0):=by kernel_rfl
@[go_sem] theorem AP6:BI Tryz.prog 128 1=some (126,4):=by kernel_rfl
@[go_sem] theorem ANo:Av Tryz.prog 130=some 7:=by kernel_rfl
@[go_sem] theorem AOO:DC Tryz.prog 130=some true:=by kernel_rfl
@[go_sem] theorem ANv:DE Tryz.prog 130=some [.atom (.int .i64 0),.atom (.int .i64 0),.slice .full [],.slice .full [],.atom (.bool false),.atom (.int .u64 0),.atom (.int .u64 0)]:=by kernel_rfl
@[go_sem] theorem APB:Ec Tryz.prog 130=none:=by kernel_rfl
@[go_sem] theorem AMF:EL Tryz.prog 130=some [(0,5),(5,1),(6,1)]:=by kernel_rfl
@[go_sem] theorem APr:BI Tryz.prog 130 0=some (26,0):=by kernel_rfl
@[go_sem] theorem AQM:BI Tryz.prog 130 1=some (40,5):=by kernel_rfl
@[go_sem] theorem AQB:BI Tryz.prog 130 2=some (40,6):=by kernel_rfl
@[go_sem] theorem ANk:Av Tryz.prog 151=some 1:=by kernel_rfl
@[go_sem] theorem AOQ:DC Tryz.prog 151=some false:=by kernel_rfl
@[go_sem] theorem AN9:Av Tryz.prog 162=some 3:=by kernel_rfl
@[go_sem] theorem AO8:DC Tryz.prog 162=some true:=by kernel_rfl
@[go_sem] theorem AN3:DE Tryz.prog 162=some [.atom (.bool false),.atom (.bool false),.atom (.bool false)]:=by kernel_rfl
@[go_sem] theorem APD:Ec Tryz.prog 162=none:=by kernel_rfl
@[go_sem] theorem AL6:EL Tryz.prog 162=some [(0,1),(1,1),(2,1)]:=by kernel_rfl
@[go_sem] theorem AOU:MG Tryz.prog 162=some [(4,0),(4,1),(4,2)]:=by kernel_rfl
@[go_sem] theorem AMi:Kx Tryz.prog 162=false:=by kernel_rfl
@[go_sem] theorem APs:BI Tryz.prog 162 0=some (4,0):=by kernel_rfl
@[go_sem] theorem AQn:BI Tryz.prog 162 1=some (4,1):=by kernel_rfl
@[go_sem] theorem AP4:BI Tryz.prog 162 2=some (4,2):=by kernel_rfl
@[go_sem] theorem AQw:Tryz.prog.underlying 173=some (.int .u64):=by kernel_rfl
@[go_sem] theorem ADQ:Bn Tryz.prog 184=some 199:=by kernel_rfl
@[go_sem] theorem ARA:Tryz.prog.underlying 184=some (.slice 199):=by kernel_rfl
@[go_sem] theorem AEM:Av Tryz.prog 199=some 10:=by kernel_rfl
@[go_sem] theorem ACJ:ER Tryz.prog 199=some 80:=by kernel_rfl
@[go_sem] theorem APc:Ec Tryz.prog 199=some (2,65):=by kernel_rfl
@[go_sem] theorem AL9:EL Tryz.prog 199=none:=by kernel_rfl
@[go_sem] theorem ANm:DE Tryz.prog 199=some [.atom (.int .i64 0),.atom (.int .i64 0),.atom (.int .i64 0),.atom (.bool false),.atom (.int .i64 0),.atom (.int .i64 0),.atom (.int .i64 0),.atom (.int .i64 0),.atom (.bool false),.atom (.int .i64 0)]:=by kernel_rfl
@[go_sem] theorem ABS:Dh Tryz.prog 199=some 10:=by kernel_rfl
@[go_sem] theorem ADC:Bn Tryz.prog 207=some 209:=by kernel_rfl
@[go_sem] theorem ARS:Tryz.prog.underlying 207=some (.slice 209):=by kernel_rfl
@[go_sem] theorem AOS:Ec Tryz.prog 207=none:=by kernel_rfl
@[go_sem] theorem ADc:Av Tryz.prog 209=some 2:=by kernel_rfl
@[go_sem] theorem ABH:ER Tryz.prog 209=some 16:=by kernel_rfl
@[go_sem] theorem AOG:Ec Tryz.prog 209=some (2,3):=by kernel_rfl
@[go_sem] theorem AL7:EL Tryz.prog 209=none:=by kernel_rfl
@[go_sem] theorem ANi:Bn Tryz.prog 209=none:=by kernel_rfl
@[go_sem] theorem AOA:DE Tryz.prog 209=some [.atom (.int .i64 0),.atom (.int .i64 0)]:=by kernel_rfl
@[go_sem] theorem ABs:Dh Tryz.prog 209=some 2:=by kernel_rfl
theorem AOo:Tryz.prog.funcs[4]?=some Tryz.f4:=by kernel_rfl
theorem AOm:Tryz.prog.funcs[8]?=some Tryz.f8:=by kernel_rfl
theorem AOZ:Tryz.prog.funcs[9]?=some Tryz.f9:=by kernel_rfl
theorem ACk:Tryz.prog.funcs[10]?=some Tryz.f10:=by kernel_rfl
theorem ACT:Tryz.prog.funcs[12]?=some Tryz.f12:=by kernel_rfl
theorem AG3:Tryz.prog.funcs[15]?=some Tryz.f15:=by kernel_rfl
theorem ANG:Tryz.prog.funcs[18]?=some Tryz.f18:=by kernel_rfl
theorem AB9:Tryz.prog.funcs[19]?=some Tryz.f19:=by kernel_rfl
theorem ACC:Tryz.prog.funcs[20]?=some Tryz.f20:=by kernel_rfl
theorem ANU:Tryz.prog.funcs[21]?=some Tryz.f21:=by kernel_rfl
theorem AHD:Tryz.prog.funcs[23]?=some Tryz.f23:=by kernel_rfl
theorem ABf:Tryz.prog.funcs[25]?=some Tryz.f25:=by kernel_rfl
theorem AHJ:Tryz.prog.funcs[26]?=some Tryz.f26:=by kernel_rfl
theorem ANZ:Tryz.prog.funcs[27]?=some Tryz.f27:=by kernel_rfl
theorem AHW:Tryz.prog.funcs[30]?=some Tryz.f30:=by kernel_rfl
theorem ANB:Tryz.prog.funcs[34]?=some Tryz.f34:=by kernel_rfl
theorem YA:Tryz.prog.funcs[35]?=some Tryz.f35:=by kernel_rfl
theorem ANQ:Tryz.prog.funcs[36]?=some Tryz.f36:=by kernel_rfl
theorem AMQ:Tryz.prog.funcs[37]?=some Tryz.f37:=by kernel_rfl
theorem ANW:Tryz.prog.funcs[38]?=some Tryz.f38:=by kernel_rfl
theorem AMm:Tryz.prog.funcs[39]?=some Tryz.f39:=by kernel_rfl
theorem AMb:Tryz.prog.funcs[40]?=some Tryz.f40:=by kernel_rfl
theorem AMa:Tryz.prog.funcs[41]?=some Tryz.f41:=by kernel_rfl
theorem ANV:Tryz.prog.funcs[42]?=some Tryz.f42:=by kernel_rfl
theorem AMw:Tryz.prog.funcs[43]?=some Tryz.f43:=by kernel_rfl
theorem ANh:Tryz.prog.funcs[44]?=some Tryz.f44:=by kernel_rfl
theorem AG5:Tryz.prog.funcs[45]?=some Tryz.f45:=by kernel_rfl
theorem UI:Tryz.prog.funcs[46]?=some Tryz.f46:=by kernel_rfl
theorem ABy:Tryz.prog.funcs[47]?=some Tryz.f47:=by kernel_rfl
theorem AHI:Tryz.prog.funcs[48]?=some Tryz.f48:=by kernel_rfl
theorem AHY:Tryz.prog.funcs[49]?=some Tryz.f49:=by kernel_rfl
theorem ANP:Tryz.prog.funcs[50]?=some Tryz.f50:=by kernel_rfl
theorem ANd:Tryz.prog.funcs[51]?=some Tryz.f51:=by kernel_rfl
theorem ANX:MV Tryz.f51=true:=by kernel_rfl
theorem AHM:Tryz.prog.funcs[53]?=some Tryz.f53:=by kernel_rfl
theorem AHU:Tryz.prog.funcs[54]?=some Tryz.f54:=by kernel_rfl
theorem ACI:Tryz.prog.funcs[55]?=some Tryz.f55:=by kernel_rfl
theorem ANL:Tryz.prog.funcs[56]?=some Tryz.f56:=by kernel_rfl
theorem ACh:Tryz.prog.funcs[57]?=some Tryz.f57:=by kernel_rfl
theorem AHC:Tryz.prog.funcs[58]?=some Tryz.f58:=by kernel_rfl
theorem ANF:Tryz.prog.funcs[59]?=some Tryz.f59:=by kernel_rfl
theorem ANb:MV Tryz.f59=true:=by kernel_rfl
theorem AMo:Tryz.prog.funcs[60]?=some Tryz.f60:=by kernel_rfl
theorem AMW:Tryz.prog.funcs[61]?=some Tryz.f61:=by kernel_rfl
theorem AMK:MV Tryz.f61=true:=by kernel_rfl
theorem AG6:Tryz.prog.funcs[62]?=some Tryz.f62:=by kernel_rfl
theorem AHG:Tryz.prog.funcs[63]?=some Tryz.f63:=by kernel_rfl
theorem AHK:Tryz.prog.funcs[64]?=some Tryz.f64:=by kernel_rfl
theorem ABQ:Tryz.prog.funcs[65]?=some Tryz.f65:=by kernel_rfl
theorem AHL:Tryz.prog.funcs[66]?=some Tryz.f66:=by kernel_rfl
theorem AM2:Tryz.prog.funcs[67]?=some Tryz.f67:=by kernel_rfl
theorem AMx:Tryz.prog.funcs[68]?=some Tryz.f68:=by kernel_rfl
theorem ANN:Tryz.prog.funcs[69]?=some Tryz.f69:=by kernel_rfl
theorem AMJ:Tryz.prog.funcs[70]?=some Tryz.f70:=by kernel_rfl
theorem AHZ:Tryz.prog.funcs[71]?=some Tryz.f71:=by kernel_rfl
theorem ANT:Tryz.prog.funcs[73]?=some Tryz.f73:=by kernel_rfl
theorem AMN:Tryz.prog.funcs[74]?=some Tryz.f74:=by kernel_rfl
theorem AMy:Tryz.prog.funcs[75]?=some Tryz.f75:=by kernel_rfl
theorem AHd:Tryz.prog.funcs[77]?=some Tryz.f77:=by kernel_rfl
theorem ACS:Tryz.prog.funcs[79]?=some Tryz.f79:=by kernel_rfl
theorem AM5:Tryz.prog.funcs[80]?=some Tryz.f80:=by kernel_rfl
theorem ABr:Tryz.prog.funcs[81]?=some Tryz.f81:=by kernel_rfl
theorem AMe:Tryz.prog.funcs[82]?=some Tryz.f82:=by kernel_rfl
theorem ABj:Tryz.prog.funcs[83]?=some Tryz.f83:=by kernel_rfl
theorem AHT:Tryz.prog.funcs[84]?=some Tryz.f84:=by kernel_rfl
theorem AHP:Tryz.prog.funcs[85]?=some Tryz.f85:=by kernel_rfl
theorem AMH:Tryz.prog.funcs[86]?=some Tryz.f86:=by kernel_rfl
theorem YD:Tryz.prog.funcs[87]?=some Tryz.f87:=by kernel_rfl
theorem ANC:Tryz.prog.funcs[88]?=some Tryz.f88:=by kernel_rfl
theorem AHf:Tryz.prog.funcs[89]?=some Tryz.f89:=by kernel_rfl
theorem ANI:MV Tryz.f89=true:=by kernel_rfl
theorem AMv:Tryz.prog.funcs[90]?=some Tryz.f90:=by kernel_rfl
theorem AMr:MV Tryz.f90=true:=by kernel_rfl
theorem AMg:Tryz.prog.funcs[91]?=some Tryz.f91:=by kernel_rfl
theorem AHg:Tryz.prog.funcs[92]?=some Tryz.f92:=by kernel_rfl
theorem Xy:Tryz.prog.funcs[93]?=some Tryz.f93:=by kernel_rfl
theorem AM9:Tryz.prog.funcs[94]?=some Tryz.f94:=by kernel_rfl
theorem AMz:Tryz.prog.funcs[95]?=some Tryz.f95:=by kernel_rfl
theorem ANE:Tryz.prog.funcs[96]?=some Tryz.f96:=by kernel_rfl
theorem AHR:Tryz.prog.funcs[97]?=some Tryz.f97:=by kernel_rfl
theorem AHN:Tryz.prog.funcs[98]?=some Tryz.f98:=by kernel_rfl
theorem AMk:Tryz.prog.funcs[99]?=some Tryz.f99:=by kernel_rfl
theorem ANf:MV Tryz.f99=true:=by kernel_rfl
theorem AEs:Tryz.prog.funcs[100]?=some Tryz.f100:=by kernel_rfl
theorem AL0:MV Tryz.f100=true:=by kernel_rfl
theorem AEu:Tryz.prog.funcs[101]?=some Tryz.f101:=by kernel_rfl
theorem AJa:MV Tryz.f101=true:=by kernel_rfl
theorem AD1:Tryz.prog.funcs[102]?=some Tryz.f102:=by kernel_rfl
theorem ALE:Tryz.prog.funcs[103]?=some Tryz.f103:=by kernel_rfl
theorem AET:Tryz.prog.funcs[104]?=some Tryz.f104:=by kernel_rfl
theorem AJt:Tryz.prog.funcs[105]?=some Tryz.f105:=by kernel_rfl
theorem AKX:Tryz.prog.funcs[106]?=some Tryz.f106:=by kernel_rfl
theorem AKa:Tryz.prog.funcs[107]?=some Tryz.f107:=by kernel_rfl
theorem AJu:Tryz.prog.funcs[108]?=some Tryz.f108:=by kernel_rfl
theorem AKO:Tryz.prog.funcs[109]?=some Tryz.f109:=by kernel_rfl
theorem AKY:Tryz.prog.funcs[110]?=some Tryz.f110:=by kernel_rfl
theorem AKz:Tryz.prog.funcs[111]?=some Tryz.f111:=by kernel_rfl
theorem YZ:Tryz.prog.funcs[114]?=some Tryz.f114:=by kernel_rfl
theorem AKi:Tryz.prog.funcs[115]?=some Tryz.f115:=by kernel_rfl
theorem AL2:Tryz.prog.funcs[116]?=some Tryz.f116:=by kernel_rfl
theorem AEE:Tryz.prog.funcs[117]?=some Tryz.f117:=by kernel_rfl
theorem Yk:Tryz.prog.funcs[118]?=some Tryz.f118:=by kernel_rfl
theorem AE9:Tryz.prog.funcs[119]?=some Tryz.f119:=by kernel_rfl
theorem ALu:MV Tryz.f119=true:=by kernel_rfl
theorem ALo:Tryz.prog.funcs[120]?=some Tryz.f120:=by kernel_rfl
theorem AJb:Tryz.prog.funcs[121]?=some Tryz.f121:=by kernel_rfl
theorem ZZ:Tryz.prog.funcs[122]?=some Tryz.f122:=by kernel_rfl
theorem AKx:Tryz.prog.funcs[123]?=some Tryz.f123:=by kernel_rfl
theorem AJs:Tryz.prog.funcs[124]?=some Tryz.f124:=by kernel_rfl
theorem Ya:Tryz.prog.funcs[125]?=some Tryz.f125:=by kernel_rfl
theorem ADa:Tryz.prog.funcs[126]?=some Tryz.f126:=by kernel_rfl
theorem AEl:Tryz.prog.funcs[127]?=some Tryz.f127:=by kernel_rfl
theorem ADz:Tryz.prog.funcs[139]?=some Tryz.f139:=by kernel_rfl
theorem AC9:Tryz.prog.funcs[140]?=some Tryz.f140:=by kernel_rfl
theorem AJc:Tryz.prog.funcs[141]?=some Tryz.f141:=by kernel_rfl
theorem ACq:Tryz.prog.funcs[142]?=some Tryz.f142:=by kernel_rfl
theorem ADr:Tryz.prog.funcs[143]?=some Tryz.f143:=by kernel_rfl
theorem AKt:Tryz.prog.funcs[144]?=some Tryz.f144:=by kernel_rfl
theorem AL1:Tryz.prog.funcs[145]?=some Tryz.f145:=by kernel_rfl
theorem AEa:Tryz.prog.funcs[146]?=some Tryz.f146:=by kernel_rfl
theorem ACu:Tryz.prog.funcs[147]?=some Tryz.f147:=by kernel_rfl
theorem AKP:Tryz.prog.funcs[148]?=some Tryz.f148:=by kernel_rfl
theorem ALz:Tryz.prog.funcs[155]?=some Tryz.f155:=by kernel_rfl
theorem AEf:Tryz.prog.funcs[156]?=some Tryz.f156:=by kernel_rfl
theorem ALf:Tryz.prog.funcs[157]?=some Tryz.f157:=by kernel_rfl
theorem AEe:Tryz.prog.funcs[159]?=some Tryz.f159:=by kernel_rfl
theorem AEj:Tryz.prog.funcs[160]?=some Tryz.f160:=by kernel_rfl
theorem AD4:Tryz.prog.funcs[161]?=some Tryz.f161:=by kernel_rfl
theorem ADG:Tryz.prog.funcs[162]?=some Tryz.f162:=by kernel_rfl
theorem AJz:Tryz.prog.funcs[163]?=some Tryz.f163:=by kernel_rfl
theorem AKW:Tryz.prog.funcs[164]?=some Tryz.f164:=by kernel_rfl
theorem ALx:Tryz.prog.funcs[165]?=some Tryz.f165:=by kernel_rfl
theorem AKe:Tryz.prog.funcs[166]?=some Tryz.f166:=by kernel_rfl
theorem AJp:Tryz.prog.funcs[167]?=some Tryz.f167:=by kernel_rfl
theorem AKv:Tryz.prog.funcs[168]?=some Tryz.f168:=by kernel_rfl
end
section
theorem flN:∀ a∈([]:List AV),Bo a:=fun a h=>by cases h
theorem flC {a:AV} {l:List AV} (h:Bo a) (hs:∀ b∈l,Bo b):∀ b∈a :: l,Bo b:=fun b hb=>by
 rcases List.mem_cons.1 hb with rfl | hb
 ·exact h
 ·exact hs b hb
abbrev AC:=BitVec 64
abbrev AV.set (s:AC):AV:=.u64 s.toNat
theorem NZ (s:AC):BitVec.ofInt 64 (s.toNat:Int)=s:=by
 apply BitVec.eq_of_toNat_eq
 simp[BitVec.toNat_ofInt]
theorem TR (s:AC):IntKind.u64.wrap (s.toNat:Int)=s.toNat:=ANg (by omega) (by have:=s.isLt;omega)
@[go_sem ↓ high] theorem YM (P:Program) (xt:TypeId) (s t:AC):Bq P .and xt (.set s) (.set t)=some (.set (s&&&t)):=by
 have fin:=congrArg (fun x=>some (AV.atom (.int .u64 x))) (TR (s&&&t))
 have:BitVec.ofInt IntKind.u64.bits (s.toNat:Int)&&&BitVec.ofInt IntKind.u64.bits (t.toNat:Int)=s&&&t:=by
  show BitVec.ofInt 64 _&&&BitVec.ofInt 64 _=_
  rw[NZ,NZ]
 simp only[Bq,Cx,if_true,this]
 exact fin
@[go_sem ↓ high] theorem AAm (P:Program) (xt:TypeId) (s t:AC):Bq P .or xt (.set s) (.set t)=some (.set (s|||t)):=by
 have fin:=congrArg (fun x=>some (AV.atom (.int .u64 x))) (TR (s|||t))
 have:BitVec.ofInt IntKind.u64.bits (s.toNat:Int)|||BitVec.ofInt IntKind.u64.bits (t.toNat:Int)=s|||t:=by
  show BitVec.ofInt 64 _|||BitVec.ofInt 64 _=_
  rw[NZ,NZ]
 simp only[Bq,Cx,if_true,this]
 exact fin
@[go_sem ↓ high] theorem Un (P:Program) (xt:TypeId) (s t:AC):Bq P .andNot xt (.set s) (.set t)=some (.set (s&&&~~~t)):=by
 have fin:=congrArg (fun x=>some (AV.atom (.int .u64 x))) (TR (s&&&~~~t))
 have:BitVec.ofInt IntKind.u64.bits (s.toNat:Int)&&&~~~BitVec.ofInt IntKind.u64.bits (t.toNat:Int)=s&&&~~~t:=by
  show BitVec.ofInt 64 _&&&~~~BitVec.ofInt 64 _=_
  rw[NZ,NZ]
 simp only[Bq,Cx,if_true,this]
 exact fin
theorem AEB (s t:AC):((s.toNat:Int) == (t.toNat:Int))=(s == t):=by
 rw[Bool.eq_iff_iff,beq_iff_eq,beq_iff_eq]
 constructor
 ·intro h;exact BitVec.eq_of_toNat_eq (by omega)
 ·rintro rfl;rfl
theorem OG {x:AV} (h:Bo x):∀ c∈x.cells,Bo c:=by
 cases h <;> intro c hc <;> simp only[AV.cells] at hc
 ·simp at hc;subst hc;exact .atom _
 ·simp at hc;subst hc;exact .slice _ _ (by assumption) (by assumption)
 ·rename_i h;exact h c hc
 ·simp at hc;subst hc;exact .tuple _ (by assumption)
 ·simp at hc;subst hc;exact .func _ _ _ (by assumption) (by assumption)
 ·simp at hc;subst hc;exact .iface _ _ (by assumption)
theorem AQ {α:Type} (f:α→AV) (h:∀ x,Bo (f x)) (l:List α):Bo (.slice .foreign (l.map f)):=.slice .foreign _ (fun id h=>by cases h) (fun e he c hc=>by
 obtain⟨x,_,rfl⟩:=List.mem_map.1 he
 exact OG (h x) c hc)
theorem Ext.mkB (b X:List Ck) (r:List (Option (Nat × List AV))) (μ:TypeId→Bool):Ext ⟨b,r,μ⟩ ⟨b++X,r,μ⟩:=⟨⟨X,rfl⟩,⟨[],by simp⟩,rfl⟩
theorem If {α:Type} {B:List α} {i:Nat} {c:α} (h:B[i]?=some c) (X:List α):(B++X)[i]?=some c:=by
 rw[List.getElem?_append_left (List.getElem?_eq_some_iff.1 h).1];exact h
theorem APS {α:Type} {l:List α} {i:Nat} (h:i<l.length):l[i]?=some l[i]:=List.getElem?_eq_getElem h
theorem ACY (i:Nat) (h:i<9223372036854775807):IntKind.i64.wrap ((i:Int)+1)=((i+1:Nat):Int):=by rw[AKB (by omega) (by omega)];rfl
end
section
def AV.w (s:AC):AV:=.atom (.int .u64 s.toNat)
theorem AMR (n:Int) (h:0≤n) (h':n<18446744073709551616):AV.atom (.int .u64 n)=.w (BitVec.ofInt 64 n):=by
 simp only[AV.w,BitVec.toNat_ofInt]
 congr 2
 omega
@[go_sem] theorem ALq (n:Int) (h:decide (0≤n)=true) (h':decide (n<18446744073709551616)=true):AV.atom (.int .u64 n)=.w (BitVec.ofInt 64 n):=AMR n (of_decide_eq_true h) (of_decide_eq_true h')
@[go_sem ↓ high] theorem AN2 (n:Int) (h:decide (0≤n)=true) (h':decide (n<18446744073709551616)=true):Ez (.int .u64 n)=some (.w (BitVec.ofInt 64 n)):=by
 rw[← ALq n h h'];rfl
attribute [go_sem] BitVec.reduceOfInt Int.reduceLE Int.reduceLT decide_true
section
variable (P:Program) (xt:TypeId) (s t:AC)
@[go_sem ↓ high] theorem AMu:Bq P .and xt (.w s) (.w t)=some (.w (s&&&t)):=YM P xt s t
@[go_sem ↓ high] theorem ANj:Bq P .or xt (.w s) (.w t)=some (.w (s|||t)):=AAm P xt s t
@[go_sem ↓ high] theorem AJV:Bq P .andNot xt (.w s) (.w t)=some (.w (s&&&~~~t)):=Un P xt s t
theorem OH (n:Int):IntKind.u64.wrap n=n % 18446744073709551616:=by simp[IntKind.wrap,IntKind.bits,IntKind.signed]
@[go_sem ↓ high] theorem AMS:Bq P .add xt (.w s) (.w t)=some (.w (s+t)):=by
 simp only[AV.w,Bq,Cx,if_true,OH,BitVec.toNat_add]
 congr 3
@[go_sem ↓ high] theorem AMI:Bq P .sub xt (.w s) (.w t)=some (.w (s - t)):=by
 simp only[AV.w,Bq,Cx,if_true,OH,BitVec.toNat_sub]
 have:=s.isLt;have:=t.isLt
 congr 3;omega
@[go_sem ↓ high] theorem AMd:Bq P .mul xt (.w s) (.w t)=some (.w (s * t)):=by
 simp only[AV.w,Bq,Cx,if_true,OH,BitVec.toNat_mul]
 congr 3
@[go_sem ↓ high] theorem AMG:Bq P .quo xt (.w s) (.w t)=if t=0#64 then none else some (.w (s / t)):=by
 simp only[AV.w,Bq,Cx,if_true,OH]
 by_cases h:t=0#64
 ·subst h;rfl
 ·have h0:(t.toNat:Int)≠0:=fun e=>h (BitVec.eq_of_toNat_eq (by simpa using e))
  rw[if_neg h0,if_neg h]
  have hs:=s.isLt
  have hd:s.toNat / t.toNat≤s.toNat:=Nat.div_le_self _ _
  have e1:((s.toNat:Int)).tdiv (t.toNat:Int)=((s.toNat / t.toNat:Nat):Int):=rfl
  have e2:(s / t).toNat=s.toNat / t.toNat:=BitVec.toNat_udiv
  rw[e1,e2]
  congr 3
  generalize s.toNat / t.toNat=q at hd ⊢
  omega
@[go_sem ↓ high] theorem AMq:Bq P .rem xt (.w s) (.w t)=if t=0#64 then none else some (.w (s % t)):=by
 simp only[AV.w,Bq,Cx,if_true]
 by_cases h:t=0#64
 ·subst h;rfl
 ·have h0:(t.toNat:Int)≠0:=fun e=>h (BitVec.eq_of_toNat_eq (by simpa using e))
  rw[if_neg h0,if_neg h]
  have e1:((s.toNat:Int)).tmod (t.toNat:Int)=((s.toNat % t.toNat:Nat):Int):=rfl
  rw[e1,← BitVec.toNat_umod]
@[go_sem ↓ high] theorem AMn:Bq P .eql xt (.w s) (.w t)=some (.bool (s == t)):=by
 simp only[AV.w,Bq,Cx,if_true,AEB]
@[go_sem ↓ high] theorem AM1:Bq P .neq xt (.w s) (.w t)=some (.bool (s != t)):=by
 simp only[AV.w,Bq,Cx,if_true,bne,AEB]
@[go_sem ↓ high] theorem AML:Bq P .lss xt (.w s) (.w t)=some (.bool (decide (s<t))):=by
 simp only[AV.w,Bq,Cx,if_true,BitVec.lt_def]
 exact congrArg (fun b=>some (AV.bool b)) (decide_eq_decide.2 (by omega))
@[go_sem ↓ high] theorem ANe:Bq P .leq xt (.w s) (.w t)=some (.bool (decide (s≤t))):=by
 simp only[AV.w,Bq,Cx,if_true,BitVec.le_def]
 exact congrArg (fun b=>some (AV.bool b)) (decide_eq_decide.2 (by omega))
@[go_sem ↓ high] theorem AMt:Bq P .gtr xt (.w s) (.w t)=some (.bool (decide (s > t))):=by
 simp only[AV.w,Bq,Cx,if_true,GT.gt,BitVec.lt_def]
 exact congrArg (fun b=>some (AV.bool b)) (decide_eq_decide.2 (by omega))
@[go_sem ↓ high] theorem AMs:Bq P .geq xt (.w s) (.w t)=some (.bool (decide (s ≥ t))):=by
 simp only[AV.w,Bq,Cx,if_true,GE.ge,BitVec.le_def]
 exact congrArg (fun b=>some (AV.bool b)) (decide_eq_decide.2 (by omega))
@[go_sem ↓ high] theorem AMZ:Bq P .shl xt (.w s) (.w t)=some (.w (s <<< t.toNat)):=by
 simp only[AV.w,Bq,Nb,OH]
 rw[if_neg (by omega)]
 congr 3
 simp only[Int.toNat_natCast,BitVec.toNat_shiftLeft,Nat.shiftLeft_eq,IntKind.bits]
 rcases Nat.lt_or_ge t.toNat 64 with h | h
 ·rw[Nat.min_eq_left (by omega)]
  simp
 ·rw[Nat.min_eq_right (by omega)]
  obtain⟨k,hk⟩:∃ k,t.toNat=64+k:=⟨t.toNat - 64,by omega⟩
  rw[hk,Nat.pow_add,← Nat.mul_assoc,Nat.mul_right_comm]
  simp only[Nat.mul_mod_left]
  omega
@[go_sem ↓ high] theorem AMp:Bq P .shr xt (.w s) (.w t)=some (.w (s >>> t.toNat)):=by
 simp only[AV.w,Bq,Nb]
 rw[if_neg (by omega)]
 congr 3
 simp only[Int.toNat_natCast,BitVec.toNat_ushiftRight,Nat.shiftRight_eq_div_pow,IntKind.bits]
 have e:∀ a b:Nat,((a:Int)).fdiv ((2:Int) ^ b)=((a / 2 ^ b:Nat):Int):=by
  intro a b
  rw[Int.fdiv_eq_ediv_of_nonneg _ (by exact_mod_cast Nat.zero_le (2 ^ b))]
  simp
 rw[e]
 rcases Nat.lt_or_ge t.toNat 64 with h | h
 ·rw[Nat.min_eq_left (by omega)]
 ·rw[Nat.min_eq_right (by omega)]
  have hs:=s.isLt
  rw[Nat.div_eq_of_lt hs,Nat.div_eq_of_lt (Nat.lt_of_lt_of_le hs (Nat.pow_le_pow_right (by omega) h))]
end
@[go_sem] theorem AV.strip_w (s:AC):AV.strip (.w s)=.w s:=rfl
@[go_sem] theorem AV.strip1_w (s:AC):AV.strip1 (.w s)=.w s:=rfl
@[go_sem] theorem ANH (s:AC):Bj (.w s)=true:=rfl
@[go_sem] theorem AV.cells_w (s:AC):AV.cells (.w s)=[.w s]:=rfl
@[go_sem] theorem AEQ (s:AC):aun .neg (.w s)=some (.w (-s)):=by
 simp only[AV.w,aun,Cx,OH]
 congr 3
 have:=s.isLt
 rw[BitVec.toNat_neg]
 omega
@[go_sem ↓ high] theorem AOn (P:Program) (a b:TypeId) (k:IntKind) (n:Int) (h1:P.underlying a=some (.int k)) (h2:P.underlying b=some (.int .u64)):Ox P a b (.atom (.int k n))=some (.w (BitVec.ofInt 64 n)):=by
 simp only[Ox,h1,h2,OH,AV.w,BitVec.toNat_ofInt]
 congr 3;omega
@[go_sem ↓ high] theorem APV (P:Program) (a b:TypeId) (s:AC) (h1:P.underlying a=some (.int .u64)) (h2:P.underlying b=some (.int .i64)):Ox P a b (.w s)=some (.i64 (w64 s.toNat)):=by
 simp only[AV.w,Ox,h1,h2];rfl
attribute [go_sem] List.contains_nil List.contains_cons Nat.reduceBEq
def Za (a b:AC):AC:=if b > a then b else a
@[go_sem ↓] theorem AOF (a b:AC):amm true (.w a) (.w b)=some (.w (Za a b)):=by
 simp only[AV.w,amm,Za,GT.gt,BitVec.lt_def,if_true]
 by_cases h:a.toNat<b.toNat
 ·rw[if_pos h,if_pos (by omega)]
 ·rw[if_neg h,if_neg (by omega)]
end
section
theorem ABB {α:Type} {c:Prop} [Decidable c] {x:Option α} {r:α} (h:(if c then none else x)=some r):¬ c∧x=some r:=by
 split at h
 ·cases h
 ·exact⟨by assumption,h⟩
theorem AKm {α:Type} [BEq α] [LawfulBEq α] {x a:α} (h:(x != a)=false):x=a:=by simpa [bne] using h
theorem AMM {α:Type} [BEq α] {x a:α} (h:(x == a)=true):(x != a)=false:=by simp[bne,h]
theorem ANY {α:Type} [BEq α] {x a:α} (h:(x == a)=false):(x != a)=true:=by simp[bne,h]
theorem Oa {α:Type} [BEq α] {x a:α} (h:(x != a)=true):(x == a)=false:=by simpa [bne] using h
theorem YE {α:Type} [BEq α] {x a:α} (h:(x != a)=false):(x == a)=true:=by simpa [bne] using h
attribute [go_sem] BitVec.reduceEq BitVec.reduceBEq
end
section
def vwT (τ:List (Nat × Nat)):Option LV→LV→Prop
 | some (.v a),.v b=>a=b
 | some (.lref t o),.lref t' o'=>t=rn τ t'∧o=o'
 | some (.mref t),.mref t'=>t=rn τ t'
 | some (.fn f a b),.fn f' a' b'=>f=f'∧a=LAs.ren τ a'∧b=LAs.ren τ b'
 | _,_=>False
def ABn (τ:List (Nat × Nat)) (S:List (Nat × LV)):List (Nat × LV)→Prop
 | []=>True
 | (t,v) :: l=>vwT τ (AI S t) v∧ABn τ S l
def Hp (S:List (Nat × LV)):List Tmp→List AV→List (Nat × LV)
 | t :: ts,a :: ds=>Hp ((t,.v a) :: S) ts ds
 | _,_=>S
def MW:List (Nat × LV)→Bool
 | []=>true
 | (_,.iter _) :: _=>false
 | _ :: l=>MW l
def LO (c:FM) (lo:Option Nat):Prop:=ACj c.base lo∧∀ l,lo=some l→∀ p∈c.bs,p.2≠l
def UH (N N':List (Nat × List CV)):Bool:=JZ [] N'&&(CJ N N'&&KW N N')
variable [Mu]
section
variable {P:Program} {f:FuncId} {fr:Fro} {ℓ ℓ':Nat→Nat} {ρ ρ':Nat→Own} {c:FM} {L L':AM} {env:List AV} {m m':Mem} {lo:Option Nat} {σ:List (Nat × Option Nat)} {τ:List (Nat × Nat)} {N N':List (Nat × List CV)}
theorem Zv:∀ {S' S:List (Nat × LV)},ABn τ S S'→∀ t v,AI S' t=some v→vwT τ (AI S t) v:=by
 intro S'
 induction S' with
 | nil=>intro S _ t v h;cases h
 | cons x l ih =>
  obtain⟨t0,v0⟩:=x
  intro S h t v hv
  simp only[AI] at hv
  split at hv
  ·rename_i e;subst e;injection hv with hv;subst hv;exact h.1
  ·exact ih h.2 t v hv
theorem LO.at_ (hlo:LO c lo) (h:BP P fr ℓ ρ c L env m):ACj m lo:=by
 cases lo with
 | none=>trivial
 | some l =>
  obtain⟨st,pend,e,ps,a,b,hb⟩:=hlo.1
  exact⟨st,pend,e,ps,a,b,h.frame l _ hb fun p hp _=>hlo.2 l rfl p hp⟩
theorem LO.none (c:FM):LO c none:=⟨trivial,fun l h=>by cases h⟩
theorem LC.part {fn:Func} (hmix:P.follows .mixedOrders=true) (hf:P.funcs[f]?=some fn) {k:Nat} {Q:Exit→AM→Prop} (hd:Lx fn k=true) (hn:env.length=BN P f) (hr:Rel P c L env m)
  (h:LC P f lo c (Dk (k+1) (Er fn k)) Q L):∃ x env' m',Bu P lo (Bm P f k) env m x env' m'∧UpQ P (BN P f) c (Q x) env' m':=by
 simp only[Lx,Bool.and_eq_true,decide_eq_true_eq] at hd
 have hbo:Cd P f=Bl fn:=by simp[Cd,Bl,hf]
 have e1:Bm P f k=Er fn k:=by simp[Bm,Er,hbo]
 have e2:fn.ntmps=BN P f:=by simp[BN,hf]
 rw[← e1,e2,← hbo] at hd
 rw[← e1] at h
 have h0:(At (Cd P f))[k]?=some (Bm P f k):=by
  have h1:k<(At (Cd P f)).length:=by rw[Eh];exact hd.1
  simp[Bm,List.getElem?_eq_getElem h1]
 exact LC.exec hmix hn hr hd.2 (fun i hi=>KB h0 i hi) h
def cOf (ℓ:Nat→Nat) (ρ:Nat→Own) (m:Mem) (N:List (Nat × List CV)) (hN:Gu N=true):FM:=⟨m,MD ℓ N,fun id=>∃ i s es,Du N i s es∧ρ i=.row id,fun p hp=>(Ex hN p hp).1⟩
theorem Fs.rel (hmode:m.mode=Bk) (hN:Gu N=true) (hh:Fs ℓ ρ m N) {S:List (Nat × LV)} (hslot:∀ t v,AI S t=some v→v≠.dead→∃ a,env[t]?=some a∧BK P [] ℓ ρ v a) (htok:∀ t v,AI S t=some v→∀ i s es,¬ v.has i s es) :
  BP P [] ℓ ρ (cOf ℓ ρ m N hN) ⟨S,N⟩ env m:=by
 have visN:∀ {i s es},Vis ⟨S,N⟩ i s es→Du N i s es:=by
  rintro i s es (⟨t,v,h4,h5⟩ | h4)
  ·exact(htok t v h4 i s es h5).elim
  ·exact h4
 refine⟨hmode,hslot,hh.locs,fun i s es hv=>hh.tok i s es (visN hv),fun i s es j s' es' hv hv'=>hh.apart i s es j s' es' (visN hv) (visN hv'),hh.inj,fun p hp=>?_,fun t cs h4=>?_,fun i s es hv id hid=>.inr ⟨i,s,es,visN hv,hid⟩,⟨Nat.le_refl _,Nat.le_refl _⟩,fun l b h4 _=>h4,fun id x h4 _=>h4,fun q hq=>(by cases hq),fun q hq=>(by cases hq)⟩
 ·obtain⟨_,h6,h7⟩:=Ex hN p hp
  exact⟨h7,h6.symm⟩
 ·exact .inr (.inl ⟨_,IK h4,rfl⟩)
theorem BP.back (g3:BP P fr ℓ' ρ' c L env m') (hbs:c.bs=MD ℓ N) (hR:c.R0=fun id=>∃ i s es,Du N i s es∧ρ i=.row id) (hN:Gu N=true) (g4:FN σ=true) (g5:vwN σ [] L.N N') (hg:UH N N'=true) :
  Fs ℓ (vρ σ ρ') m' N'∧Gf ℓ ρ c.base N (vρ σ ρ') m' N':=by
 simp only[UH,Bool.and_eq_true] at hg
 obtain⟨hn2,hn3,hn4⟩:=hg
 have hℓ:∀ t cs,AI N t=some cs→ℓ' t=ℓ t:=fun t cs ht=>(g3.bor _ (by rw[hbs];exact IK (ℓ:=ℓ) ht)).2
 have hh':Fs ℓ' (vρ σ ρ') m' N':=g3.held.view (τ:=[]) g4 hn2 g5
 have hnm:∀ t cs,AI N' t=some cs→∃ k,AI N t=some k:=fun t cs ht=>Fz hn3 t cs ht
 refine⟨⟨fun t cs ht=>?_,hh'.tok,hh'.apart,fun t t' cs cs' h1 h2 h3=>?_⟩,⟨g3.mode,g3.len,fun l b hb hne=>?_,fun id x hx hne=>?_,fun i s es hi id hid=>?_⟩⟩
 ·obtain⟨ds,k1,k2⟩:=hh'.locs t cs ht
  obtain⟨k,hk⟩:=hnm t cs ht
  rw[hℓ t k hk] at k1
  exact⟨ds,k1,Nu hℓ (Kh hn4 t cs ht) k2⟩
 ·obtain⟨k,hk⟩:=hnm t cs h1
  obtain⟨k',hk'⟩:=hnm t' cs' h2
  exact hh'.inj t t' cs cs' h1 h2 (by rw[hℓ t k hk,hℓ t' k' hk'];exact h3)
 ·refine g3.frame l b hb (fun p hp hlt e=>?_)
  rw[hbs] at hp
  obtain⟨_,k2,k,k3⟩:=Ex hN p hp
  exact hne p.1 k k3 hlt (by rw[← k2,e])
 ·refine g3.rframe id x hx ?_
  rw[hR]
  exact(fun ⟨i,s,es,k1,k2⟩=>hne i s es k1 k2)
 ·rcases Ih g5 hi with k1 | ⟨i',k1,k2⟩
  ·simp only[vρ,k1] at hid;cases hid
  ·simp only[vρ,k1] at hid
   rcases g3.rlow i' s es k2.vis id hid with k3 | k3
   ·exact .inl k3
   ·rw[hR] at k3
    obtain⟨i0,s0,es0,k3,k4⟩:=k3
    exact .inr ⟨i0,s0,es0,k3,k4⟩
theorem ACf:∀ {S:List (Nat × LV)},MW S=true→∀ t xs,AI S t≠some (.iter xs):=by
 intro S
 induction S with
 | nil=>intro _ t xs h;cases h
 | cons x l ih =>
  obtain⟨t0,v0⟩:=x
  intro h t xs hx
  simp only[AI] at hx
  split at hx
  ·injection hx with hx;subst hx;simp[MW] at h
  ·exact ih (by cases v0 <;> first | exact h | (simp[MW] at h)) t xs hx
theorem BP.noFro (h:BP P fr ℓ ρ c L env m) (hn:MW L.S=true):BP P [] ℓ ρ c L env m:=by
 refine { h with slot:=fun t v h1 h2=>?_,froz:=⟨fun q hq=>(by cases hq),fun q hq=>(by cases hq)⟩ }
 obtain⟨a,h3,h4⟩:=h.slot t v h1 h2
 refine⟨a,h3,?_⟩
 cases v with
 | iter xs=>exact(ACf hn t xs h1).elim
 | _=>exact h4
theorem BP.setBase (h:BP P [] ℓ ρ c L env m) {l:Nat} {b b0:Ck} (hl:c.base.boxes[l]?=some b0) (hp:∀ p∈c.bs,p.2≠l) (hb0:∀ cs,¬ FH ℓ ρ cs b0):BP P [] ℓ ρ ⟨c.base.set l b,c.bs,c.R0,c.hb⟩ L env (m.set l b):=by
 have hm:m.boxes[l]?=some b0:=h.frame l b0 hl fun p h1 _=>hp p h1
 have hlb:l<c.base.boxes.length:=(List.getElem?_eq_some_iff.1 hl).1
 have hlm:l<m.boxes.length:=(List.getElem?_eq_some_iff.1 hm).1
 have hne:∀ t cs,AI L.N t=some cs→ℓ t≠l:=by
  intro t cs ht e
  obtain⟨ds,h1,h2⟩:=h.locs t cs ht
  rw[e,hm] at h1
  injection h1 with h1
  subst h1
  exact hb0 cs h2
 refine⟨h.mode,h.slot,fun t cs ht=>?_,h.tok,h.apart,h.inj,h.bor,fun t cs ht=>?_,h.rlow,?_,fun i x h1 h2=>?_,h.rframe,⟨fun q hq=>(by cases hq),fun q hq=>(by cases hq)⟩⟩
 ·obtain⟨ds,h1,h2⟩:=h.locs t cs ht
  refine⟨ds,?_,h2⟩
  simp only[Mem.set]
  rw[List.getElem?_set_ne (fun e=>hne t cs ht e.symm)];exact h1
 ·have:=h.low t cs ht
  simpa [Mem.set] using this
 ·have:=h.len
  simpa [Mem.set] using this
 ·simp only[Mem.set] at h1 ⊢
  by_cases e:l=i
  ·subst e
   rw[List.getElem?_set_self hlb] at h1
   rw[List.getElem?_set_self hlm];exact h1
  ·rw[List.getElem?_set_ne e] at h1 ⊢
   exact h.frame i x h1 h2
theorem Fs.ext (h:Fs ℓ ρ m N) (he:Ext m m'):Fs ℓ ρ m' N:=by
 refine⟨fun t cs ht=>?_,fun i s es hi=>?_,h.apart,h.inj⟩
 ·obtain⟨ds,h1,h2⟩:=h.locs t cs ht
  exact⟨ds,he.get h1,h2⟩
 ·obtain⟨_,⟨x,hx⟩,_⟩:=he
  refine(h.tok i s es hi).mono fun id _ y h2=>?_
  rw[hx,List.getElem?_append_left (List.getElem?_eq_some_iff.1 h2).1];exact h2
theorem Fs.set {l:Nat} (b:Ck) (h:Fs ℓ ρ m N) (hl:∀ t cs,AI N t=some cs→ℓ t≠l):Fs ℓ ρ (m.set l b) N:=by
 refine⟨fun t cs ht=>?_,h.tok,h.apart,h.inj⟩
 obtain⟨ds,h1,h2⟩:=h.locs t cs ht
 refine⟨ds,?_,h2⟩
 simp only[Mem.set]
 rw[List.getElem?_set_ne (fun e=>hl t cs ht e.symm)];exact h1
theorem Gf.ext2 {m0:Mem} (h:Gf ℓ ρ m0 N ρ' m N') (he:Ext m m'):Gf ℓ ρ m0 N ρ' m' N':=by
 obtain⟨⟨x,hx⟩,⟨y,hy⟩,hm⟩:=he
 refine⟨by rw[hm];exact h.mode,⟨?_,?_⟩,fun l b h1 h2=>?_,fun id z h1 h2=>?_,h.rlow⟩
 ·have:=h.len.1;rw[hx];simp;omega
 ·have:=h.len.2;rw[hy];simp;omega
 ·have h3:=h.frame l b h1 h2
  rw[hx,List.getElem?_append_left (List.getElem?_eq_some_iff.1 h3).1];exact h3
 ·have h3:=h.rframe id z h1 h2
  rw[hy,List.getElem?_append_left (List.getElem?_eq_some_iff.1 h3).1];exact h3
theorem Gf.set {m0:Mem} {l:Nat} (b:Ck) (h:Gf ℓ ρ m0 N ρ' m N') (hl:m0.boxes.length≤l):Gf ℓ ρ m0 N ρ' (m.set l b) N':=by
 refine⟨h.mode,by have:=h.len;simpa [Mem.set] using this,fun i x h1 h2=>?_,h.rframe,h.rlow⟩
 have:=(List.getElem?_eq_some_iff.1 h1).1
 simp only[Mem.set]
 rw[List.getElem?_set_ne (by omega)]
 exact h.frame i x h1 h2
theorem Gf.trans {m0:Mem} {l:Nat} {b:Ck} {N2:List (Nat × List CV)} {ρ2:Nat→Own} {m2:Mem} (h:Gf ℓ ρ m0 N ρ' m N') (k:Gf ℓ ρ' (m.set l b) N' ρ2 m2 N2) (hl:m0.boxes.length≤l) (hn:∀ t cs,AI N' t=some cs→∃ cs',AI N t=some cs'):Gf ℓ ρ m0 N ρ2 m2 N2:=by
 refine⟨k.mode,⟨?_,?_⟩,fun i x h1 h2=>?_,fun id x h1 h2=>?_,fun i s es h1 id hid=>?_⟩
 ·have h1:=h.len.1;have h2:=k.len.1;simp[Mem.set] at h2;omega
 ·have h1:=h.len.2;have h2:=k.len.2;simp[Mem.set] at h2;omega
 ·have:=(List.getElem?_eq_some_iff.1 h1).1
  refine k.frame i x ?_ (fun t cs ht hlt=>?_)
  ·simp only[Mem.set]
   rw[List.getElem?_set_ne (by omega)]
   exact h.frame i x h1 h2
  ·obtain⟨cs',h3⟩:=hn t cs ht
   exact h2 t cs' h3 hlt
 ·have:=(List.getElem?_eq_some_iff.1 h1).1
  refine k.rframe id x (h.rframe id x h1 h2) (fun i s es hi e=>?_)
  rcases h.rlow i s es hi id e with h3 | ⟨i0,s0,es0,h3,h4⟩
  ·omega
  ·exact h2 i0 s0 es0 h3 h4
 ·rcases k.rlow i s es h1 id hid with h3 | ⟨i0,s0,es0,h3,h4⟩
  ·have h4:=h.len.2;simp[Mem.set] at h3;exact .inl (by omega)
  ·exact h.rlow i0 s0 es0 h3 id h4
theorem AAb:∀ {N N':List (Nat × List CV)},CJ N N'=true→Gu N=true→Gu N'=true:=by
 intro N
 induction N with
 | nil=>intro N' h _;cases N' with
  | nil=>rfl
  | cons y l'=>simp[CJ] at h
 | cons x l ih =>
  obtain⟨t,cs⟩:=x
  intro N' h h1
  cases N' with
  | nil=>simp[CJ] at h
  | cons y l' =>
   obtain⟨t',cs'⟩:=y
   simp only[CJ,Bool.and_eq_true,beq_iff_eq] at h
   simp only[Gu,Bool.and_eq_true] at h1 ⊢
   rw[← h.1]
   exact⟨h1.1,ih h.2 h1.2⟩
theorem UQ:∀ {N N' N2:List (Nat × List CV)},CJ N N'=true→CJ N' N2=true→CJ N N2=true:=by
 intro N
 induction N with
 | nil=>intro N' N2 h k;cases N' with
  | nil=>exact k
  | cons y l'=>simp[CJ] at h
 | cons x l ih =>
  obtain⟨t,cs⟩:=x
  intro N' N2 h k
  cases N' with
  | nil=>simp[CJ] at h
  | cons y l' =>
   cases N2 with
   | nil=>simp[CJ] at k
   | cons z l2 =>
    simp only[CJ,Bool.and_eq_true,beq_iff_eq] at h k ⊢
    exact⟨h.1.trans k.1,ih h.2 k.2⟩
theorem WB:∀ {N:List (Nat × List CV)},CJ N N=true:=by
 intro N
 induction N with
 | nil=>rfl
 | cons x l ih=>obtain⟨t,cs⟩:=x;simp only[CJ,ih,BEq.rfl,Bool.and_self]
theorem AAg:∀ (ts:List Tmp) (ds:List AV) {S:List (Nat × LV)} {env:List AV},(∀ t∈ts,t<env.length)→(∀ t v,AI S t=some v→v≠.dead→∃ a,env[t]?=some a∧BK P [] ℓ ρ v a) →
  ∀ t v,AI (Hp S ts ds) t=some v→v≠.dead→∃ a,(putAll env ts ds)[t]?=some a∧BK P [] ℓ ρ v a:=by
 intro ts
 induction ts with
 | nil=>intro ds S env _ h;simpa [putAll,Hp] using h
 | cons t0 ts ih =>
  intro ds S env ht h
  cases ds with
  | nil=>simpa [putAll,Hp] using h
  | cons a ds =>
   simp only[putAll,Hp]
   refine ih ds (fun t h=>by rw[List.length_set];exact ht t (List.mem_cons_of_mem _ h)) ?_
   intro t v hv hd
   simp only[AI] at hv
   split at hv
   ·rename_i e;subst e;injection hv with hv;subst hv
    exact⟨a,by rw[List.getElem?_set_self (ht _ (by simp))],rfl⟩
   ·rename_i e
    obtain⟨x,h1,h2⟩:=h t v hv hd
    exact⟨x,by rw[List.getElem?_set_ne e];exact h1,h2⟩
theorem ACZ:∀ (ts:List Tmp) (ds:List AV) {S:List (Nat × LV)},(∀ t v,AI S t=some v→∀ i s es,¬ v.has i s es)→∀ t v,AI (Hp S ts ds) t=some v→∀ i s es,¬ v.has i s es:=by
 intro ts
 induction ts with
 | nil=>intro ds S h;simpa [Hp] using h
 | cons t0 ts ih =>
  intro ds S h
  cases ds with
  | nil=>simpa [Hp] using h
  | cons a ds =>
   simp only[Hp]
   refine ih ds ?_
   intro t v hv
   simp only[AI] at hv
   split at hv
   ·injection hv with hv;subst hv;intro i s es hh;exact hh.elim
   ·exact h t v hv
def LN (Fin:Exit→List (Nat × List CV)→Prop) (RR:List (Nat × List CV)→Prop) (N:List (Nat × List CV)) (x2:Exit) (L2:AM):Prop :=
 ∃ σ N2,FN σ=true∧vwN σ [] L2.N N2∧UH N N2=true∧((x2=.normal∧RR N2)∨((∃ c,Ie x2=some (some c))∧Fin x2 N2))
def Qd (P:Program) (f:FuncId) (fn:Func) (j:Nat) (l:Nat) (Q:Exit→AM→Prop) (x1:Exit) (L1:AM):Prop :=
 x1=.normal∧MW L1.S=true∧∀ c2,LO c2 (some l)→LC P f (some l) c2 (Dk (j+1) (Er fn j)) Q L1
def ANa (P:Program) (f:FuncId) (fn:Func) (k j:Nat) (ps:Array Tmp) (S0:List (Nat × LV)) (Q:Exit→AM→Prop) (x:List AV) (N:List (Nat × List CV)):Prop :=
 x.length=ps.size∧∀ l c1,LO c1 (some l)→LC P f (some l) c1 (Dk (k+1) (Er fn k)) (Qd P f fn j l Q) ⟨Hp S0 ps.toList x,N⟩
def HM (P:Program) (f:FuncId) (fn:Func) (k j:Nat) (ps:Array Tmp) (S0:List (Nat × LV)) (Fin:Exit→List (Nat × List CV)→Prop):List (List AV)→List (Nat × List CV)→Prop
 | [],N=>Fin .normal N
 | x :: xs,N=>ANa P f fn k j ps S0 (LN Fin (HM P f fn k j ps S0 Fin xs) N) x N
theorem HM.nil {fn:Func} {k j:Nat} {ps:Array Tmp} {S0:List (Nat × LV)} {Fin:Exit→List (Nat × List CV)→Prop} (h:Fin .normal N):HM P f fn k j ps S0 Fin [] N:=h
theorem HM.cons {fn:Func} {k j:Nat} {ps:Array Tmp} {S0:List (Nat × LV)} {Fin:Exit→List (Nat × List CV)→Prop} {x:List AV} {xs:List (List AV)} (h1:x.length=ps.size) (h:∀ l c1,LO c1 (some l)→LC P f (some l) c1 (Dk (k+1) (Er fn k)) (Qd P f fn j l (LN Fin (HM P f fn k j ps S0 Fin xs) N)) ⟨Hp S0 ps.toList x,N⟩):HM P f fn k j ps S0 Fin (x :: xs) N:=⟨h1,h⟩
theorem Qd.mk {fn:Func} {j l:Nat} {Q:Exit→AM→Prop} (h1:MW L.S=true) (h:∀ c2,LO c2 (some l)→LC P f (some l) c2 (Dk (j+1) (Er fn j)) Q L):Qd P f fn j l Q .normal L:=⟨rfl,h1,h⟩
theorem LN.next {Fin:Exit→List (Nat × List CV)→Prop} {RR:List (Nat × List CV)→Prop} (σ:List (Nat × Option Nat)) (h1:FN σ=true) (h2:vwN σ [] L.N N') (h3:UH N N'=true) (h:RR N'):LN Fin RR N .normal L:=⟨σ,N',h1,h2,h3,.inl ⟨rfl,h⟩⟩
attribute [go_sem] Hp List.toList_toArray ABn vwT
theorem Ku.iter {fn:Func} (hmix:P.follows .mixedOrders=true) (hf:P.funcs[f]?=some fn) (hlo:LO c lo) {t:Tmp} {k j:Nat} {ps:Array Tmp} {Q:Exit→AM→Prop} (hk:Lx fn k=true) (hj:Lx fn j=true) (hps:(ps.toList.all fun t=>decide (t<fn.ntmps))=true)
  {xs:List (List AV)} (hg:AI L.S t=some (.iter xs)) (σ:List (Nat × Option Nat)) (τ:List (Nat × Nat)) {S0:List (Nat × LV)} {N0:List (Nat × List CV)} (hσ:FN σ=true) (hn:(Gu N0&&(JZ τ N0&&Qy τ N0))=true) (hv:vwN σ τ L.N N0) (hS:ABn τ L.S S0)
  (h:HM P f fn k j ps S0 (fun x N'=>Q x (EO τ (killAll L (Do σ++GL N')) N')) xs N0):Ku P f lo c (.tmp t) ps k j Q L:=by
 intro env m hne ⟨fr,ℓ,ρ,hr⟩
 simp only[Bool.and_eq_true] at hn
 obtain⟨hn1,hn2,hn3⟩:=hn
 have hnt:fn.ntmps=BN P f:=by simp[BN,hf]
 have hpt:∀ t∈ps.toList,t<env.length:=fun t ht=>by rw[hne,← hnt];exact of_decide_eq_true (List.all_eq_true.1 hps t ht)
 obtain⟨av,hav,fi,first,cap,rfl,hI⟩:=hr.slot t _ hg (by simp)
 have hheld:Fs (fun t=>ℓ (rn τ t)) (vρ σ ρ) m N0:=hr.held.view (τ:=τ) hσ hn2 hv
 have hslot0:∀ t v,AI S0 t=some v→v≠.dead→∃ a,env[t]?=some a∧∀ ρ,BK P [] (fun t=>ℓ (rn τ t)) ρ v a:=by
  intro t v h1 _
  have h2:=Zv hS t v h1
  cases h3:AI L.S t with
  | none=>rw[h3] at h2;cases v <;> exact h2.elim
  | some u =>
   rw[h3] at h2
   have h4:=hr.slot t u h3
   cases u with
   | v a =>
    cases v <;> try exact h2.elim
    obtain⟨x,h5,h6⟩:=h4 (by simp)
    refine⟨x,h5,fun _=>?_⟩
    simp only[vwT] at h2;subst h2;exact h6
   | lref t1 o1 =>
    cases v <;> try exact h2.elim
    obtain⟨x,h5,h6⟩:=h4 (by simp)
    refine⟨x,h5,fun _=>?_⟩
    obtain⟨rfl,rfl⟩:=h2;exact h6
   | mref t1 =>
    cases v <;> try exact h2.elim
    obtain⟨x,h5,h6⟩:=h4 (by simp)
    refine⟨x,h5,fun _=>?_⟩
    simp only[vwT] at h2;subst h2;exact h6
   | fn g a b =>
    cases v <;> try exact h2.elim
    obtain⟨x,h5,h6⟩:=h4 (by simp)
    refine⟨x,h5,fun _=>?_⟩
    obtain⟨rfl,rfl,rfl⟩:=h2
    simp only[BK,LAs.av_ren] at h6 ⊢;exact h6
   | _=>cases v <;> exact h2.elim
 have htok0:∀ t v,AI S0 t=some v→∀ i s es,¬ v.has i s es:=by
  intro t v h1 i s es hh
  have h2:=Zv hS t v h1
  cases v <;> first | exact hh.elim | (cases h3:AI L.S t with
   | none=>rw[h3] at h2;exact h2.elim
   | some u=>rw[h3] at h2;cases u <;> exact h2.elim)
 let ℓ1:Nat→Nat:=fun t=>ℓ (rn τ t)
 let l:=m.boxes.length
 let Rd:Ck:=.loop .ready none env ps (Bm P f k) (Bm P f j)
 let By:Ck:=.loop .busy none env ps (Bm P f k) (Bm P f j)
 let Fin:Exit→List (Nat × List CV)→Prop:=fun x N'=>Q x (EO τ (killAll L (Do σ++GL N')) N')
 let St:List (Nat × List CV)→Mem→Prop:=fun N1 m1=>CJ N0 N1=true∧∃ ρ1,Fs ℓ1 ρ1 m1 N1∧Gf ℓ1 (vρ σ ρ) m N0 ρ1 m1 N1
 have low0:∀ t cs,AI N0 t=some cs→ℓ1 t<l:=fun t cs ht=>by
  obtain⟨ds,h1,_⟩:=hheld.locs t cs ht
  exact(List.getElem?_eq_some_iff.1 h1).1
 have low:∀ {N1:List (Nat × List CV)},CJ N0 N1=true→∀ t cs,AI N1 t=some cs→ℓ1 t<l:=fun hs t cs ht=>by
  obtain⟨k,hk⟩:=Fz hs t cs ht
  exact low0 t k hk
 have frOk:∀ {N1 m1},St N1 m1→RE fr m1:=by
  rintro N1 m1 ⟨_,ρ1,_,hst⟩ q hq
  refine hst.frame _ _ (hr.froz.1 q hq) (fun n cs hn _=>?_)
  obtain⟨cs',h1,_⟩:=Hs hv n cs hn
  exact hr.froz.2 q hq _ _ h1
 have Stext:∀ {N1 m1 m2},St N1 m1→Ext m1 m2→St N1 m2:=fun ⟨h1,ρ1,h2,h3⟩ he=>⟨h1,ρ1,h2.ext he,h3.ext2 he⟩
 have Stset:∀ {N1 m1} k b,l≤k→St N1 m1→St N1 (m1.set k b):=fun k b hk ⟨h1,ρ1,h2,h3⟩=>⟨h1,ρ1,h2.set b (fun t cs ht e=>by have:=low h1 t cs ht;omega),h3.set b hk⟩
 have hSt0:St N0 (m.push Rd):=by
  have he:Ext m (m.push Rd):=⟨⟨[Rd],rfl⟩,⟨[],by simp[Mem.push]⟩,rfl⟩
  refine⟨WB,vρ σ ρ,hheld.ext he,⟨hr.mode,⟨by simp[Mem.push],by simp[Mem.push]⟩,fun i b h1 _=>he.get h1,fun id x h1 _=>h1,fun i s es h1 id hid=>.inr ⟨i,s,es,h1,hid⟩⟩⟩
 obtain⟨r,m2,hc,hkeep,hend⟩:=hI (l+1) (.yield l) (fun i m1=>(∃ N1,HM P f fn k j ps S0 Fin (xs.drop i) N1∧St N1 m1)∧m1.boxes[l]?=some Rd)
  (fun m1=>∃ x c,(∃ N1,Fin x N1∧St N1 m1)∧m1.boxes[l]?=some (.loop .done (some c) env ps (Bm P f k) (Bm P f j))∧Ji (some c)=some x)
  (m.push Rd) ⟨rfl,rfl,rfl⟩ (by simp[Mem.push,l]) (fun i m1 h1=>by obtain⟨⟨N1,_,h2⟩,_⟩:=h1;exact frOk h2) (fun i m1 m2 h1 he=>by obtain⟨⟨N1,h2,h3⟩,h4⟩:=h1;exact⟨⟨N1,h2,Stext h3 he⟩,he.get h4⟩) (fun m1 m2 h1 he=>by obtain⟨x,c,⟨N1,h2,h3⟩,h4,h5⟩:=h1;exact⟨x,c,⟨N1,h2,Stext h3 he⟩,he.get h4,h5⟩)
  ⟨⟨N0,h,hSt0⟩,by simp[Mem.push,l]⟩
  (fun i m1 k c hk h1=>by
   obtain⟨⟨N1,h2,h3⟩,h4⟩:=h1
   have hk:l+1≤k:=by simpa [Mem.push,l] using hk
   exact⟨⟨N1,h2,Stset k c (by omega) h3⟩,by simp only[Mem.set];rw[List.getElem?_set_ne (by omega)];exact h4⟩)
  (fun m1 k c hk h1=>by
   obtain⟨x,c',⟨N1,h2,h3⟩,h4,h5⟩:=h1
   have hk:l+1≤k:=by simpa [Mem.push,l] using hk
   exact⟨x,c',⟨N1,h2,Stset k c (by omega) h3⟩,by simp only[Mem.set];rw[List.getElem?_set_ne (by omega)];exact h4,h5⟩) (by
   rintro i x m1 hx hk1 ⟨⟨N1,hrun,hsame,ρ1,hheld1,hst1⟩,hbl⟩
   have hdr:xs.drop i=x :: xs.drop (i+1):=by
    obtain⟨hi,rfl⟩:=List.getElem?_eq_some_iff.1 hx
    exact List.drop_eq_getElem_cons hi
   rw[hdr] at hrun
   obtain⟨hlen,hrun⟩:=hrun
   have hnb:Gu N1=true:=AAb hsame hn1
   have hlt1:l<m1.boxes.length:=(List.getElem?_eq_some_iff.1 hbl).1
   have hnol:∀ p∈MD ℓ1 N1,p.2≠l:=fun p hp e=>by
    obtain⟨_,h2,cs,h3⟩:=Ex hnb p hp
    have:=low hsame _ cs h3
    omega
   have hrel1:=Fs.rel (P:=P) (env:=putAll env ps.toList x) hst1.mode hnb hheld1 (AAg ps.toList x hpt (fun t v h1 h2=>by obtain⟨a,h3,h4⟩:=hslot0 t v h1 h2;exact⟨a,h3,h4 _⟩)) (ACZ ps.toList x htok0)
   obtain⟨x1,env1,m2,hA,hn1',L1,⟨fr1,ℓ2,ρ2,hr2⟩,rfl,hni,hB⟩:=LC.part hmix hf hk (by rw[PN];exact hne) ⟨_,_,_,hrel1⟩ (hrun l (cOf ℓ1 ρ1 m1 N1 hnb) ⟨⟨_,_,_,_,_,_,hbl⟩,fun l' e p hp=>by injection e with e;subst e;exact hnol p hp⟩)
   have hb2:m2.boxes[l]?=some Rd:=hr2.frame l _ hbl fun p hp _=>hnol p hp
   have hr3:=(hr2.noFro hni).setBase (b:=By) hbl hnol (fun ds e=>e)
   have hsetl:(m1.set l By).boxes[l]?=some By:=by simp only[Mem.set];rw[List.getElem?_set_self hlt1]
   obtain⟨x2,env2,m3,hB',hn2',L2,⟨fr2,ℓ3,ρ3,hr4⟩,σ',N2,hσ',hv',hgood,hend⟩:=LC.part hmix hf hj hn1' ⟨_,_,_,hr3⟩ (hB ⟨m1.set l By,_,_,_⟩ ⟨⟨_,_,_,_,_,_,hsetl⟩,fun l' e p hp=>by injection e with e;subst e;exact hnol p hp⟩)
   have hb3:m3.boxes[l]?=some By:=hr4.frame l _ hsetl fun p hp _=>hnol p hp
   have hl3:l<m3.boxes.length:=(List.getElem?_eq_some_iff.1 hb3).1
   obtain⟨hheld2,hst2⟩:=hr4.back rfl rfl hnb hσ' hv' hgood
   have hs12:CJ N1 N2=true:=by simp only[UH,Bool.and_eq_true] at hgood;exact hgood.2.1
   have hSt2:St N2 m3:=⟨UQ hsame hs12,_,hheld2,hst1.trans hst2 (Nat.le_refl _) (fun t cs ht=>Fz hsame t cs ht)⟩
   have hkeep:∀ b,DZ (l+1) m1 (m3.set l b):=by
    intro b
    refine⟨fun i c hi hc=>?_,?_,?_,?_⟩
    ·simp only[Mem.set]
     rw[List.getElem?_set_ne (by omega)]
     refine hr4.frame i c ?_ (fun p hp _ e=>?_)
     ·simp only[Mem.set]
      rw[List.getElem?_set_ne (by omega)];exact hc
     ·obtain⟨_,h2,cs,h3⟩:=Ex hnb p hp
      have:=low hsame _ cs h3
      omega
    ·have:=hr4.len.1;simp[Mem.set] at this ⊢;exact this
    ·have:=hr4.len.2;simp[Mem.set] at this ⊢;exact this
    ·show m3.mode=m1.mode
     rw[hr4.mode,hst1.mode]
   rcases hend with⟨rfl,hrun'⟩|⟨⟨c,hc⟩,hfin⟩
   ·refine⟨_,_,IF.yield hbl hlen hA hb2 hB' hb3 rfl,hkeep _,.inl ⟨rfl,⟨N2,hrun',Stset l _ (Nat.le_refl _) hSt2⟩,?_⟩⟩
    simp only[Mem.set]
    rw[List.getElem?_set_self hl3];rfl
   ·refine⟨_,_,IF.yield hbl hlen hA hb2 hB' hb3 hc,hkeep _,.inr ⟨rfl,x2,c,⟨N2,hfin,Stset l _ (Nat.le_refl _) hSt2⟩,?_,AAz hc⟩⟩
    simp only[Mem.set]
    rw[List.getElem?_set_self hl3];rfl)
 have up:∀ {x N1 m1} b,St N1 m1→Fin x N1→UpQ P (BN P f) c (Q x) env (m1.set l b):=by
  rintro x N1 m1 b hs hfin
  obtain⟨h1,ρ1,h2,h3⟩:=Stset l b (Nat.le_refl _) hs
  exact⟨hne,_,⟨fr,ℓ,_,(hr.vars h1 hn2 hn3 hv h2 h3).1⟩,hfin⟩
 rcases hend with⟨⟨N1,hrun,hs⟩,hb⟩|⟨x,c,⟨N1,hfin,hs⟩,hb,hx⟩
 ·rw[List.drop_length] at hrun
  exact⟨.normal,env,_,Bu.range (hlo.at_ hr) (by simpa [BF] using hav) hc hb (by simp) rfl,up _ hs hrun⟩
 ·exact⟨x,env,_,Bu.range (hlo.at_ hr) (by simpa [BF] using hav) hc hb (by simp) hx,up _ hs hfin⟩
end
end
section
variable [Mu]
def Qm (q:Option (Nat × List AV)) (n:Option Nat) (a:AV) (i s k off:Nat) (L:AM) (K:LV→AM→List Nat→Prop):Prop :=
 Gj (match q,n with
  | some (s',es),some n=>if isV i=true∧s'=s∧a.cells.length=n∧Bj a=true then(es[k]?).bind fun e=>(OR e off a.cells).map fun e'=>(LV.v .undef,KM i s (es.set k e') L,([]:List Nat)) else none
  | _,_=>none) K
theorem AAN {P:Program} {t:TypeId} {a:AV} {i s k off:Nat} {e late:Bool} {pend:List Nat} {L:AM} {K:LV→AM→List Nat→Prop} (he:e=false):Gj (Mb P t (.vref i s k off) (.v a) ⟨e,pend,late⟩ L) K=Qm (La i L) (Av P t) a i s k off L K:=by
 subst he
 simp only[Mb,Qm]
 cases La i L with
 | none=>rfl
 | some p =>
  obtain⟨s',es⟩:=p
  cases Av P t with
  | none=>rfl
  | some n=>simp only[true_and]
theorem Qm.map {α:Type} {F:α→AV} {xs:List α} {x x':α} {q:Option (Nat × List AV)} {nn:Option Nat} {n i s k off:Nat} {a:AV} {L:AM} {K:LV→AM→List Nat→Prop} (hq:q=some (s,xs.map F)) (hn:nn=some n) (hi:isV i=true) (ha:a.cells.length=n) (ht:Bj a=true)
  (hx:xs[k]?=some x) (he:OR (F x) off a.cells=some (F x')) (h:K (.v .undef) (KM i s ((xs.set k x').map F) L) []):Qm q nn a i s k off L K:=by
 subst hq hn
 unfold Qm
 dsimp only
 rw[if_pos ⟨hi,rfl,ha,ht⟩,List.getElem?_map,hx]
 simp only[Option.map_some,Option.bind_some,he,Gj]
 rw[← List.map_set];exact h
attribute [go_sem] AAN AHa
attribute [go_sem] lopt
end
section
variable [Mu]
section
variable {P:Program} {fr:Fro} {ℓ:Nat→Nat} {ρ:Nat→Own} {c:FM} {L:AM} {env:List AV} {m:Mem} {f:FuncId} {lo:Option Nat} {σ:List (Nat × Option Nat)}
def Ph (P:Program) (rs:List ResultVar) (j s:Nat) (es:List AV) (N':List (Nat × List CV)):Exit→AM→Prop
 | .ret,L | .normal,L=>∃ x,rs=[x]∧∃ σ,FN σ=true∧vwN σ [] L.N N'∧vw σ (Ci P L x) (.own j s es)
 | _,_=>False
theorem LC.resultR {fn : Func} {cb : Code} {args : List AV} {x : ResultVar} {Q : AM → Prop} (hmix : P.follows .mixedOrders = true) (hf : P.funcs[f]? = some fn) (hbb : fn.body = some cb) (h2 : (fn.name == "runtime.NumGoroutine") = false) (h3 : okL (Bl fn) fn.ntmps (Bl fn) = true) (ha : args.length ≤ fn.ntmps) {L : AM}
  (hrel:Rel P c L (args++List.replicate (fn.ntmps - args.length) AV.undef) m) (hx:fn.results.toList=[x])
  (h:LC P f none c (Dk 0 (Bl fn)) (fun e L=>(e=.ret∨e=.normal)∧Q L) L) :
  ∃ env' m' fr ℓ ρ L',BP P fr ℓ ρ c L' env' m'∧Q L'∧∀ v,Ci P L' x=some v→v≠.dead→∃ a,BK P fr ℓ ρ v a∧(∀ i s es,v.has i s es→Vis L' i s es)∧EB P f args m a.stripR m':=by
 have e:Bl fn=cb:=by simp[Bl,hbb]
 have e2:Cd P f=cb:=by simp[Cd,hf,hbb]
 have e3:fn.ntmps=BN P f:=by simp[BN,hf]
 rw[e] at h h3
 have hlen:(args++List.replicate (fn.ntmps - args.length) AV.undef).length=BN P f:=by rw[← e3];simp;omega
 obtain⟨z,env',m',g1,g2,L',⟨fr,ℓ,ρ,g3⟩,hz,hQ⟩:=LC.exec (f:=f) (c:=c) hmix hlen hrel (by rw[e2,← e3];exact h3) (fun i hi=>by rw[e2,Nat.zero_add]) h
 refine⟨env',m',fr,ℓ,ρ,L',g3,hQ,fun v k1 hd=>?_⟩
 have hres:∀ a,Ej P env' m' x=some a→EB P f args m a.stripR m':=by
  intro a k
  have:Gc P fn env' m'=some a:=by
   simp only[Gc,hx,List.mapM_cons,List.mapM_nil,k,Option.pure_def,Option.bind_eq_bind,Option.bind_some,Option.map_some,FJ]
  exact .of_body hf hbb h2 g1 hz this
 cases x with
 | tmp t =>
  simp only[Ci] at k1
  obtain⟨b,k3,k4⟩:=g3.slot t v k1 hd
  exact⟨b,k4,fun i s es hh=>.inl ⟨t,v,k1,hh⟩,hres b k3⟩
 | cell q t =>
  simp only[Ci] at k1
  split at k1
  ·rename_i n off hc
   obtain⟨b,k3,k4⟩:=g3.slot q _ hc (by simp)
   simp only[BK] at k4;subst k4
   obtain⟨cs,k5,k6⟩:=AE k1
   split at k6
   ·cases k6
   rename_i hmp
   obtain⟨bx,k7,k8⟩:=g3.locs n cs k5
   obtain⟨asx,rfl,k8⟩:=k8.nomp (by simpa using hmp)
   obtain⟨d,k9,k10,k11⟩:=RP (P:=P) (fr:=fr) k6 k8
   exact⟨d,k10,fun i s es hh=>.inr ⟨n,cs,k5,k11 i s es hh⟩,hres d (by simp only[Ej,k3,Option.bind_some,Fo,k7,k9])⟩
  ·cases k1
theorem FnR.of_lc {fn : Func} {N N' : List (Nat × List CV)} {args : List LA} {j0 s0 : Nat} {es0 : List AV} (hmix : P.follows .mixedOrders = true) (hf : P.funcs[f]? = some fn) (hok : (fn.body.isSome && !(fn.name == "runtime.NumGoroutine") && okL (Bl fn) fn.ntmps (Bl fn)) = true) (ha : decide (args.length ≤ fn.ntmps) = true) (hN : (Gu N && (JZ [] N' && (CJ N N' && KW N N'))) = true)
  (h:∀ c,LC P f none c (Dk 0 (Bl fn)) (Ph P fn.results.toList j0 s0 es0 N') ⟨Em 0 args,N⟩):FnR P f N args (.own j0 s0 es0) N':=by
 intro m ℓ ρ hmode hh
 simp only[Bool.and_eq_true,Bool.not_eq_true'] at hok hN
 obtain⟨⟨h1,h2⟩,h3⟩:=hok
 simp only[decide_eq_true_eq] at ha
 have hlen:∀ {l:List LA},(LAs.av ℓ l).length=l.length:=by
  intro l;induction l with
  | nil=>rfl
  | cons x l ih=>simp only[LAs.av,List.length_cons,ih]
 have hgetl:∀ {l:List LA} {j:Nat} {x:LA},l[j]?=some x→(LAs.av ℓ l)[j]?=some (LA.av ℓ x):=by
  intro l;induction l with
  | nil=>intro j x h;simp at h
  | cons y l ih =>
   intro j x h
   cases j with
   | zero=>simp at h;subst h;rfl
   | succ j=>simp only[LAs.av,List.getElem?_cons_succ] at h ⊢;exact ih h
 cases hbb:fn.body with
 | none=>rw[hbb] at h1;cases h1
 | some cb =>
  let cc:FM:=⟨m,MD ℓ N,fun id=>∃ i s es,Du N i s es∧ρ i=.row id,fun p hp=>(Ex hN.1 p hp).1⟩
  have visN:∀ {i s es},Vis ⟨Em 0 args,N⟩ i s es→Du N i s es:=by
   rintro i s es (⟨t,v,h4,h5⟩ | h4)
   ·exact((HB (P:=P) (ℓ:=ℓ) args 0 t v h4).2.2 i s es h5).elim
   ·exact h4
  have hrel:Rel P cc ⟨Em 0 args,N⟩ (LAs.av ℓ args++List.replicate (fn.ntmps - (LAs.av ℓ args).length) AV.undef) m:=by
   refine⟨[],ℓ,ρ,hmode,fun t v h4 _=>?_,hh.locs,fun i s es hv=>hh.tok i s es (visN hv),fun i s es j s' es' hv hv'=>hh.apart i s es j s' es' (visN hv) (visN hv'),hh.inj,fun p hp=>?_,fun t cs h4=>?_,fun i s es hv id hid=>.inr ⟨i,s,es,visN hv,hid⟩,⟨Nat.le_refl _,Nat.le_refl _⟩,fun l b h4 _=>h4,fun id x h4 _=>h4,fun q hq=>(by cases hq),fun q hq=>(by cases hq)⟩
   ·obtain⟨_,⟨x,h5,h6⟩,_⟩:=HB (P:=P) (ℓ:=ℓ) args 0 t v h4
    rw[Nat.sub_zero] at h5
    have h7:=hgetl h5
    exact⟨_,by rw[List.getElem?_append_left (List.getElem?_eq_some_iff.1 h7).1];exact h7,h6⟩
   ·obtain⟨_,h6,h7⟩:=Ex hN.1 p hp
    exact⟨h7,h6.symm⟩
   ·exact .inr (.inl ⟨_,IK h4,rfl⟩)
  -- one result
  have hres:∃ x,fn.results.toList=[x]:=by
   rcases hr:fn.results.toList with _ | ⟨x,_ | ⟨y,l⟩⟩
   ·exfalso
    obtain⟨z,_,_,_,_,_,_,g⟩:=LC.exec (f:=f) (c:=cc) (lo:=none) (Q:=Ph P fn.results.toList j0 s0 es0 N') hmix (by rw[show BN P f=fn.ntmps by simp[BN,hf]];simp;rw[hlen];omega) hrel (by rw[show Cd P f=Bl fn by simp[Cd,Bl,hf],show BN P f=fn.ntmps by simp[BN,hf]];exact h3) (k:=0) (fun i hi=>by rw[show Cd P f=Bl fn by simp[Cd,Bl,hf],Nat.zero_add]) (h cc)
    rw[hr] at g
    cases z <;> simp[Ph] at g
   ·exact⟨x,rfl⟩
   ·exfalso
    obtain⟨z,_,_,_,_,_,_,g⟩:=LC.exec (f:=f) (c:=cc) (lo:=none) (Q:=Ph P fn.results.toList j0 s0 es0 N') hmix (by rw[show BN P f=fn.ntmps by simp[BN,hf]];simp;rw[hlen];omega) hrel (by rw[show Cd P f=Bl fn by simp[Cd,Bl,hf],show BN P f=fn.ntmps by simp[BN,hf]];exact h3) (k:=0) (fun i hi=>by rw[show Cd P f=Bl fn by simp[Cd,Bl,hf],Nat.zero_add]) (h cc)
    rw[hr] at g
    cases z <;> simp[Ph] at g
  obtain⟨x,hx⟩:=hres
  obtain⟨env',m',fr,ℓ',ρ',L',g3,⟨σ,g4,g5,g6⟩,gR⟩:=LC.resultR (c:=cc) (x:=x) (Q:=fun L=>∃ σ,FN σ=true∧vwN σ [] L.N N'∧vw σ (Ci P L x) (.own j0 s0 es0)) hmix hf hbb h2 h3 (by rw[hlen];exact ha) hrel hx (LC.mono (fun e L h=>by
   rw[hx] at h
   cases e <;> first | exact h.elim | skip
   ·obtain⟨y,e,h⟩:=h;injection e with e;subst e;exact⟨.inr rfl,h⟩
   ·obtain⟨y,e,h⟩:=h;injection e with e;subst e;exact⟨.inl rfl,h⟩) (h cc))
  obtain⟨hn1,hn2,hn3,hn4⟩:=hN
  have hℓ:∀ t cs,AI N t=some cs→ℓ' t=ℓ t:=fun t cs ht=>(g3.bor _ (IK (ℓ:=ℓ) ht)).2
  have hh':Fs ℓ' (vρ σ ρ') m' N':=g3.held.view (τ:=[]) g4 hn2 g5
  have hnm:∀ t cs,AI N' t=some cs→∃ k,AI N t=some k:=fun t cs ht=>Fz hn3 t cs ht
  -- the result
  have hv:∃ a,BK P [] ℓ (vρ σ ρ') (.own j0 s0 es0) a∧EB P f (LAs.av ℓ args) m a m'∧((sg σ j0=none∧(isV j0=true→es0=[]))∨∃ i,sg σ j0=some i∧Vis L' i s0 es0):=by
   cases hl:Ci P L' x with
   | none=>rw[hl] at g6;exact g6.elim
   | some v =>
    rw[hl] at g6
    have hd:v≠.dead:=by rintro rfl;exact g6.elim
    obtain⟨a,k1,k2,k3⟩:=gR v hl hd
    cases v with
    | v y =>
     obtain⟨q1,q2,q3⟩:=g6
     have e:a=y:=k1
     subst e
     subst q2
     refine⟨_,?_,k3,.inl ⟨q1,fun hv=>(q3 hv).1⟩⟩
     simp only[BK,vρ,q1]
     rw[Ol (fun hv=>(q3 hv).2)];rfl
    | own i s es =>
     obtain⟨q1,q2,q3⟩:=g6
     subst q2 q3
     have e:a=BZ i s (ρ' i) es:=k1
     subst e
     rw[(HE i s (ρ' i) es).1] at k3
     refine⟨_,?_,k3,.inr ⟨i,q1,k2 i s es ⟨rfl,rfl,rfl⟩⟩⟩
     simp only[BK,vρ,q1]
     rw[Lh (HV g4 j0 i q1)]
    | _=>exact g6.elim
  obtain⟨a,ha1,ha2,ha3⟩:=hv
  have was:∀ j s es,JQ N' (.own j0 s0 es0) j s es→(sg σ j=none∧(isV j=true→es=[]))∨∃ i,sg σ j=some i∧Vis L' i s es:=by
   rintro j s es (h | ⟨rfl,rfl,rfl⟩)
   ·exact(MC g5 h).imp id fun ⟨i,q1,q2⟩=>⟨i,q1,q2.vis⟩
   ·exact ha3
  refine⟨m',vρ σ ρ',a,ha2,ha1,fun t cs ht=>?_,fun j s es hj=>?_,fun j s es k s' es' hj hk hne=>?_,⟨g3.mode,g3.len,fun l b hb hne=>?_,fun id x hx hne=>?_⟩,fun j s es hj id hid=>?_⟩
  ·obtain⟨asx,k1,k2⟩:=hh'.locs t cs ht
   obtain⟨k,hk⟩:=hnm t cs ht
   rw[hℓ t k hk] at k1
   exact⟨asx,k1,Nu hℓ (Kh hn4 t cs ht) k2⟩
  ·rcases was j s es hj with⟨h1,h0⟩|⟨i,h1,h2⟩
   ·simp only[vρ,h1];exact .full h0
   ·simp only[vρ,h1];exact(g3.tok i s es h2).kind (HV g4 j i h1)
  ·rcases was j s es hj with⟨q1,_⟩|⟨i,q1,q2⟩
   ·left;simp only[vρ,q1]
   ·rcases was k s' es' hk with⟨k1,_⟩|⟨i',k1,k2⟩
    ·simp only[vρ,q1,k1]
     cases hj:ρ' i with
     | full=>exact .inl rfl
     | _=>exact .inr (by simp)
    ·simp only[vρ,q1,k1]
     exact g3.apart i s es i' s' es' q2 k2 (fun e=>hne (Mf g4 j k i q1 (by rw[k1,e])))
  ·refine g3.frame l b hb (fun p hp hlt e=>?_)
   obtain⟨_,k2,k,k3⟩:=Ex hn1 p hp
   exact hne p.1 k k3 hlt (by rw[← k2,e])
  ·exact g3.rframe id x hx (fun ⟨i,s,es,k1,k2⟩=>hne i s es k1 k2)
  ·rcases was j s es hj with⟨k1,_⟩|⟨i',k1,k2⟩
   ·simp only[vρ,k1] at hid;cases hid
   ·simp only[vρ,k1] at hid
    rcases g3.rlow i' s es k2 id hid with k3 | ⟨i0,s0,es0,k3,k4⟩
    ·exact .inl k3
    ·exact .inr ⟨i0,s0,es0,k3,k4⟩
theorem FnR.tok {N N':List (Nat × List CV)} {args:List LA} {j s:Nat} {es:List AV} (i:Nat) (h:FnR P f N args (.own j s es) N') (hk:(isV i == isV j&&isB i == isB j)=true) (hi:(GL N').contains i=false) (hj:(GL N').contains j=false):FnR P f N args (.own i s es) N':=by
 simp only[Bool.and_eq_true,beq_iff_eq] at hk
 intro m ℓ ρ hmode hh
 obtain⟨m',ρ',a,h1,h2,h3,h4,h5,h6,h7⟩:=h m ℓ ρ hmode hh
 have nt:∀ k s es,Du N' k s es→k≠i∧k≠j:=by
  rintro k s es ⟨t,cs,q1,q2⟩
  have:=LH q1 q2
  refine⟨?_,?_⟩ <;> rintro rfl
  ·rw[List.contains_iff_mem.2 this] at hi;cases hi
  ·rw[List.contains_iff_mem.2 this] at hj;cases hj
 let ρ2:Nat→Own:=fun k=>if k=i then ρ' j else ρ' k
 have old:∀ k s es,Du N' k s es→ρ2 k=ρ' k:=fun k s es hk=>by simp only[ρ2,if_neg (nt k s es hk).1]
 have back:∀ k s' es',JQ N' (.own i s es) k s' es'→∃ k',JQ N' (.own j s es) k' s' es'∧ρ2 k=ρ' k'∧isV k=isV k'∧isB k=isB k'∧((k=i∧k'=j)∨(k'=k∧k≠i∧k≠j)):=by
  rintro k s' es' (hk' | ⟨rfl,rfl,rfl⟩)
  ·exact⟨k,.inl hk',old k _ _ hk',rfl,rfl,.inr ⟨rfl,nt k _ _ hk'⟩⟩
  ·exact⟨j,.inr ⟨rfl,rfl,rfl⟩,by simp[ρ2],hk.1,hk.2,.inl ⟨rfl,rfl⟩⟩
 refine⟨m',ρ2,a,h1,?_,fun t cs ht=>?_,fun k s' es' hk'=>?_,fun k s' es' k2 s2 es2 hk' hk2 hne=>?_,h6,fun k s' es' hk' id hid=>?_⟩
 ·simp only[BK] at h2 ⊢
  rw[h2,Lh (j:=j) (i:=i) ⟨hk.1,hk.2⟩];simp[ρ2]
 ·obtain⟨bx,q1,q0⟩:=h3 t cs ht
  refine⟨bx,q1,?_⟩
  cases bx with
  | map es cl=>exact q0
  | loop=>exact q0
  | cells asx =>
  obtain⟨q2,q3⟩:=q0
  refine⟨q2,fun n x a hx ha=>?_⟩
  have q4:=q3 n x a hx ha
  cases x with
  | own k s es =>
   have:Du N' k s es:=⟨t,cs,ht,List.mem_of_getElem? hx⟩
   simp only[EF] at q4 ⊢
   rw[q4,old k s es this]
  | _=>exact q4
 ·obtain⟨k',q1,q2,q3,q4,_⟩:=back k s' es' hk'
  rw[q2];exact(h4 k' s' es' q1).kind ⟨q3.symm,q4.symm⟩
 ·obtain⟨k',q1,q2,_,_,q5⟩:=back k s' es' hk'
  obtain⟨k2',r1,r2,_,_,r5⟩:=back k2 s2 es2 hk2
  rw[q2,r2]
  refine h5 k' s' es' k2' s2 es2 q1 r1 ?_
  rcases q5 with⟨e1,e2⟩|⟨e1,e2,e3⟩ <;> rcases r5 with⟨d1,d2⟩|⟨d1,d2,d3⟩ <;> subst_vars <;> first | exact hne | exact fun e=>hne rfl | exact fun e=>d3 e.symm | exact fun e=>e3 e
 ·obtain⟨k',q1,q2,_⟩:=back k s' es' hk'
  rw[q2] at hid
  exact h7 k' s' es' q1 id hid
def AFy (σ:List (Nat × Option Nat)):CV→CV→Prop
 | .own i s es,.own j s' es'=>sg σ j=some i∧s=s'∧es=es'
 | .own i _ es,.v b=>isV i=false∧b=.slice .foreign es
 | .v a,.v b=>a.strip1=b
 | _,_=>False
def ACP (σ:List (Nat × Option Nat)):List CV→List CV→Prop
 | [],[]=>True
 | c :: cs,d :: ds=>AFy σ c d∧ACP σ cs ds
 | _,_=>False
def MX:List CV→Bool
 | []=>true
 | .own i _ _ :: l=>isB i&&MX l
 | .v _ :: l=>MX l
 | _ :: _=>false
def vwG (σ:List (Nat × Option Nat)):Option LV→List CV→Prop
 | some (.ag cs),ds=>ACP σ cs ds
 | _,_=>False
def AKs (P:Program) (rs:List ResultVar) (ds:List CV) (N':List (Nat × List CV)):Exit→AM→Prop
 | .ret,L | .normal,L=>∃ x,rs=[x]∧∃ σ,FN σ=true∧vwN σ [] L.N N'∧vwG σ (Ci P L x) ds
 | _,_=>False
theorem AH0:∀ {ds:List CV},MX ds=true→∀ {f:FuncId} {a b:List LA},CV.fn f a b∈ds→False:=by
 intro ds
 induction ds with
 | nil=>intro _ f a b h;cases h
 | cons d ds ih =>
  intro h f a b hm
  rcases List.mem_cons.1 hm with e | e
  ·subst e;cases h
  ·cases d with
   | v a=>exact ih h e
   | own j s' es'=>simp only[MX,Bool.and_eq_true] at h;exact ih h.2 e
   | _=>cases h
theorem ADd:∀ {ds:List CV},MX ds=true→∀ {t:Nat},CV.p t∈ds∨CV.m t∈ds→False:=by
 intro ds
 induction ds with
 | nil=>rintro _ t (h | h) <;> cases h
 | cons d ds ih =>
  intro h t hm
  cases d with
  | v a=>exact ih (t:=t) h (by simpa using hm)
  | own i s es=>simp only[MX,Bool.and_eq_true] at h;exact ih (t:=t) h.2 (by simpa using hm)
  | _=>cases h
theorem AFv {cs ds:List CV} {bs:List AV} (hσ:FN σ=true) (hB:MX ds=true):∀ {cs:List CV} {bs:List AV},ACP σ cs ds→Cs ℓ ρ cs bs→Cs ℓ (vρ σ ρ) ds (bs.map AV.strip1)∧∀ j s es,CV.own j s es∈ds→∃ i,sg σ j=some i∧CV.own i s es∈cs:=by
 induction ds with
 | nil =>
  intro cs bs h hr
  cases cs with
  | nil=>have:=hr.1;simp at this;subst this;exact⟨⟨rfl,fun j x a h=>by simp at h⟩,fun j s es h=>by cases h⟩
  | cons c cs=>exact h.elim
 | cons d ds ih =>
  intro cs bs h hr
  cases cs with
  | nil=>exact h.elim
  | cons c cs =>
   obtain⟨h1,h2⟩:=h
   cases bs with
   | nil=>have:=hr.1;simp at this
   | cons b bs =>
    have hB2:MX ds=true:=by cases d <;> simp_all [MX]
    obtain⟨k1,k2⟩:=ih hB2 h2 ⟨by simpa using hr.1,fun j x a hx ha=>hr.2 (j+1) x a (by simpa using hx) (by simpa using ha)⟩
    have h0:=hr.2 0 c b rfl rfl
    have hd:EF ℓ (vρ σ ρ) d b.strip1∧∀ j s es,d=.own j s es→∃ i,sg σ j=some i∧c=.own i s es:=by
     cases c with
     | v a =>
      cases d with
      | v y=>simp only[AFy] at h1;have e:b=a:=h0;subst e;exact⟨h1,fun j s es e=>by cases e⟩
      | _=>exact h1.elim
     | own i s es =>
      have e:b=BZ i s (ρ i) es:=h0
      cases d with
      | v y =>
       obtain⟨h3,h4⟩:=h1
       subst e h4
       refine⟨?_,fun j s es e=>by cases e⟩
       simp only[EF];rw[(HE i s (ρ i) es).2.2.2,h3]
      | own j s' es' =>
       obtain⟨h3,h4,h5⟩:=h1
       subst h4 h5
       have hbj:isB j=true:=by simp only[MX,Bool.and_eq_true] at hB;exact hB.1
       obtain⟨q1,q2⟩:=HV hσ j i h3
       have hvj:isV j=true:=by simp only[isB,isV,decide_eq_true_eq] at hbj ⊢;omega
       refine⟨?_,fun j' s' es' e=>by injection e with e1 e2 e3;subst e1 e2 e3;exact⟨i,h3,rfl⟩⟩
       simp only[EF,vρ,h3]
       rw[e,(HE i s (ρ i) es).2.2.2,q1,hvj]
       unfold BZ
       rw[hvj,hbj]
       cases ρ i <;> rfl
      | _=>exact h1.elim
     | _=>cases d <;> exact h1.elim
    refine⟨⟨by simpa using k1.1,fun j x a hx ha=>?_⟩,fun j s es hm=>?_⟩
    ·cases j with
     | zero=>simp at hx ha;subst hx ha;exact hd.1
     | succ j=>exact k1.2 j x a (by simpa using hx) (by simpa using ha)
    ·rcases List.mem_cons.1 hm with e | e
     ·obtain⟨i,q1,q2⟩:=hd.2 j s es e.symm
      exact⟨i,q1,by rw[← q2];exact List.mem_cons_self⟩
     ·obtain⟨i,q1,q2⟩:=k2 j s es e
      exact⟨i,q1,List.mem_cons_of_mem _ q2⟩
theorem FnR.of_lcG {fn : Func} {N N' : List (Nat × List CV)} {args : List LA} {ds : List CV} (hmix : P.follows .mixedOrders = true) (hf : P.funcs[f]? = some fn) (hok : (fn.body.isSome && !(fn.name == "runtime.NumGoroutine") && okL (Bl fn) fn.ntmps (Bl fn)) = true) (ha : decide (args.length ≤ fn.ntmps) = true) (hN : (Gu N && (JZ [] N' && (CJ N N' && KW N N'))) = true)
  (hB:MX ds=true) (hone:fn.results.toList.length=1) (h:∀ c,LC P f none c (Dk 0 (Bl fn)) (AKs P fn.results.toList ds N') ⟨Em 0 args,N⟩):FnR P f N args (.ag ds) N':=by
 intro m ℓ ρ hmode hh
 simp only[Bool.and_eq_true,Bool.not_eq_true'] at hok hN
 obtain⟨⟨h1,h2⟩,h3⟩:=hok
 simp only[decide_eq_true_eq] at ha
 have hlen:∀ {l:List LA},(LAs.av ℓ l).length=l.length:=by
  intro l;induction l with
  | nil=>rfl
  | cons x l ih=>simp only[LAs.av,List.length_cons,ih]
 have hgetl:∀ {l:List LA} {j:Nat} {x:LA},l[j]?=some x→(LAs.av ℓ l)[j]?=some (LA.av ℓ x):=by
  intro l;induction l with
  | nil=>intro j x h;simp at h
  | cons y l ih =>
   intro j x h
   cases j with
   | zero=>simp at h;subst h;rfl
   | succ j=>simp only[LAs.av,List.getElem?_cons_succ] at h ⊢;exact ih h
 cases hbb:fn.body with
 | none=>rw[hbb] at h1;cases h1
 | some cb =>
  let cc:FM:=⟨m,MD ℓ N,fun id=>∃ i s es,Du N i s es∧ρ i=.row id,fun p hp=>(Ex hN.1 p hp).1⟩
  have visN:∀ {i s es},Vis ⟨Em 0 args,N⟩ i s es→Du N i s es:=by
   rintro i s es (⟨t,v,h4,h5⟩ | h4)
   ·exact((HB (P:=P) (ℓ:=ℓ) args 0 t v h4).2.2 i s es h5).elim
   ·exact h4
  have hrel:Rel P cc ⟨Em 0 args,N⟩ (LAs.av ℓ args++List.replicate (fn.ntmps - (LAs.av ℓ args).length) AV.undef) m:=by
   refine⟨[],ℓ,ρ,hmode,fun t v h4 _=>?_,hh.locs,fun i s es hv=>hh.tok i s es (visN hv),fun i s es j s' es' hv hv'=>hh.apart i s es j s' es' (visN hv) (visN hv'),hh.inj,fun p hp=>?_,fun t cs h4=>?_,fun i s es hv id hid=>.inr ⟨i,s,es,visN hv,hid⟩,⟨Nat.le_refl _,Nat.le_refl _⟩,fun l b h4 _=>h4,fun id x h4 _=>h4,fun q hq=>(by cases hq),fun q hq=>(by cases hq)⟩
   ·obtain⟨_,⟨x,h5,h6⟩,_⟩:=HB (P:=P) (ℓ:=ℓ) args 0 t v h4
    rw[Nat.sub_zero] at h5
    have h7:=hgetl h5
    exact⟨_,by rw[List.getElem?_append_left (List.getElem?_eq_some_iff.1 h7).1];exact h7,h6⟩
   ·obtain⟨_,h6,h7⟩:=Ex hN.1 p hp
    exact⟨h7,h6.symm⟩
   ·exact .inr (.inl ⟨_,IK h4,rfl⟩)
  obtain⟨x,hx⟩:∃ x,fn.results.toList=[x]:=by
   rcases hr:fn.results.toList with _ | ⟨x,_ | ⟨y,l⟩⟩
   ·rw[hr] at hone;cases hone
   ·exact⟨x,rfl⟩
   ·rw[hr] at hone;cases hone
  obtain⟨env',m',fr,ℓ',ρ',L',g3,⟨σ,g4,g5,g6⟩,gR⟩:=LC.resultR (c:=cc) (x:=x) (Q:=fun L=>∃ σ,FN σ=true∧vwN σ [] L.N N'∧vwG σ (Ci P L x) ds) hmix hf hbb h2 h3 (by rw[hlen];exact ha) hrel hx (LC.mono (fun e L h=>by
   rw[hx] at h
   cases e <;> first | exact h.elim | skip
   ·obtain⟨y,e,h⟩:=h;injection e with e;subst e;exact⟨.inr rfl,h⟩
   ·obtain⟨y,e,h⟩:=h;injection e with e;subst e;exact⟨.inl rfl,h⟩) (h cc))
  obtain⟨hn1,hn2,hn3,hn4⟩:=hN
  have hℓ:∀ t cs,AI N t=some cs→ℓ' t=ℓ t:=fun t cs ht=>(g3.bor _ (IK (ℓ:=ℓ) ht)).2
  have hh':Fs ℓ' (vρ σ ρ') m' N':=g3.held.view (τ:=[]) g4 hn2 g5
  have hnm:∀ t cs,AI N' t=some cs→∃ k,AI N t=some k:=fun t cs ht=>Fz hn3 t cs ht
  have hv:∃ a,BK P [] ℓ (vρ σ ρ') (.ag ds) a∧EB P f (LAs.av ℓ args) m a m'∧∀ j s es,CV.own j s es∈ds→∃ i,sg σ j=some i∧Vis L' i s es:=by
   cases hl:Ci P L' x with
   | none=>rw[hl] at g6;exact g6.elim
   | some v =>
    rw[hl] at g6
    cases v with
    | ag cs =>
     obtain⟨a,k1,k2,k3⟩:=gR _ hl (by simp)
     obtain⟨bs,rfl,k4⟩:=k1
     obtain⟨k5,k6⟩:=AFv (ℓ:=ℓ') (ρ:=ρ') (cs:=cs) (bs:=bs) g4 hB g6 k4
     refine⟨_,⟨bs.map AV.strip1,rfl,k5.1,fun j x a hx ha=>?_⟩,k3,fun j s es hm=>?_⟩
     ·have:=k5.2 j x a hx ha
      cases x with
      | fn g a b=>exact(AH0 hB (List.mem_of_getElem? hx)).elim
      | p t=>exact(ADd hB (.inl (List.mem_of_getElem? hx))).elim
      | m t=>exact(ADd hB (.inr (List.mem_of_getElem? hx))).elim
      | _=>exact this
     ·obtain⟨i,q1,q2⟩:=k6 j s es hm
      exact⟨i,q1,k2 i s es q2⟩
    | _=>exact g6.elim
  obtain⟨a,ha1,ha2,ha3⟩:=hv
  have was:∀ j s es,JQ N' (.ag ds) j s es→(sg σ j=none∧(isV j=true→es=[]))∨∃ i,sg σ j=some i∧Vis L' i s es:=by
   rintro j s es (h | h)
   ·exact(MC g5 h).imp id fun ⟨i,q1,q2⟩=>⟨i,q1,q2.vis⟩
   ·exact .inr (ha3 j s es h)
  refine⟨m',vρ σ ρ',a,ha2,ha1,fun t cs ht=>?_,fun j s es hj=>?_,fun j s es k s' es' hj hk hne=>?_,⟨g3.mode,g3.len,fun l b hb hne=>?_,fun id x hx hne=>?_⟩,fun j s es hj id hid=>?_⟩
  ·obtain⟨asx,k1,k2⟩:=hh'.locs t cs ht
   obtain⟨k,hk⟩:=hnm t cs ht
   rw[hℓ t k hk] at k1
   exact⟨asx,k1,Nu hℓ (Kh hn4 t cs ht) k2⟩
  ·rcases was j s es hj with⟨h1,h0⟩|⟨i,h1,h2⟩
   ·simp only[vρ,h1];exact .full h0
   ·simp only[vρ,h1];exact(g3.tok i s es h2).kind (HV g4 j i h1)
  ·rcases was j s es hj with⟨q1,_⟩|⟨i,q1,q2⟩
   ·left;simp only[vρ,q1]
   ·rcases was k s' es' hk with⟨k1,_⟩|⟨i',k1,k2⟩
    ·simp only[vρ,q1,k1]
     cases hj:ρ' i with
     | full=>exact .inl rfl
     | _=>exact .inr (by simp)
    ·simp only[vρ,q1,k1]
     exact g3.apart i s es i' s' es' q2 k2 (fun e=>hne (Mf g4 j k i q1 (by rw[k1,e])))
  ·refine g3.frame l b hb (fun p hp hlt e=>?_)
   obtain⟨_,k2,k,k3⟩:=Ex hn1 p hp
   exact hne p.1 k k3 hlt (by rw[← k2,e])
  ·exact g3.rframe id x hx (fun ⟨i,s,es,k1,k2⟩=>hne i s es k1 k2)
  ·rcases was j s es hj with⟨k1,_⟩|⟨i',k1,k2⟩
   ·simp only[vρ,k1] at hid;cases hid
   ·simp only[vρ,k1] at hid
    rcases g3.rlow i' s es k2 id hid with k3 | ⟨i0,s0,es0,k3,k4⟩
    ·exact .inl k3
    ·exact .inr ⟨i0,s0,es0,k3,k4⟩
def WL (N:List (Nat × List CV)):List (Nat × List CV)→Prop
 | []=>True
 | (t,cs) :: l=>AI N t=some cs∧WL N l
def ADY (P:Program) (rs:List ResultVar) (res:LV) (Nn:List (Nat × List CV)):Exit→AM→Prop
 | .ret,L | .normal,L=>∃ x,rs=[x]∧(WL L.N Nn∧vw [] (Ci P L x) res)
 | _,_=>False
def AAy:List (Nat × List CV)→List Nat
 | []=>[]
 | (t,_) :: l=>t :: AAy l
def Xx (D:List Nat):List (Nat × List CV)→Bool
 | []=>true
 | (t,cs) :: l=>decide (t<DQ)&&(cs.all (Ll D)&&Xx D l)
def AMf:LV→Bool
 | .lref _ _=>true
 | .mref _=>true
 | _=>false
omit [Mu] in
theorem TZ {N:List (Nat × List CV)}:∀ {Nn:List (Nat × List CV)},WL N Nn→∀ t cs,AI Nn t=some cs→AI N t=some cs:=by
 intro Nn
 induction Nn with
 | nil=>intro _ t cs h;cases h
 | cons x l ih =>
  obtain⟨t0,c0⟩:=x
  intro h t cs hc
  simp only[AI] at hc
  split at hc
  ·rename_i e;subst e;injection hc with hc;subst hc;exact h.1
  ·exact ih h.2 t cs hc
omit [Mu] in
theorem ADu {D:List Nat}:∀ {Nn:List (Nat × List CV)},Xx D Nn=true→∀ t cs,AI Nn t=some cs→t<DQ∧cs.all (Ll D)=true:=by
 intro Nn
 induction Nn with
 | nil=>intro _ t cs h;cases h
 | cons x l ih =>
  obtain⟨t0,c0⟩:=x
  intro h t cs hc
  simp only[Xx,Bool.and_eq_true,decide_eq_true_eq] at h
  simp only[AI] at hc
  split at hc
  ·rename_i e;subst e;injection hc with hc;subst hc;exact⟨h.1,h.2.1⟩
  ·exact ih h.2.2 t cs hc
omit [Mu] in
theorem AEz {D:List Nat} {ρ':Nat→Own} {cs:List CV} {b:Ck} (hr:cs.all (Ll D)=true) (h:FH ℓ ρ cs b):FH ℓ ρ' cs b:=by
 refine h.imp (fun bs hc=>⟨hc.1,fun j x a hj ha=>?_⟩) (fun es e=>e)
 have h1:=hc.2 j x a hj ha
 have h2:=List.all_eq_true.1 hr x (List.mem_of_getElem? hj)
 cases x <;> simp only[Ll] at h2 <;> first | exact h1 | cases h2
theorem FnN.of_lc {fn : Func} {Nn : List (Nat × List CV)} {args : List LA} {res : LV} (hmix : P.follows .mixedOrders = true) (hf : P.funcs[f]? = some fn) (hok : (fn.body.isSome && !(fn.name == "runtime.NumGoroutine") && okL (Bl fn) fn.ntmps (Bl fn)) = true) (ha : decide (args.length ≤ fn.ntmps) = true) (hN : (Xx (AAy Nn) Nn && AMf res) = true)
  (hone:fn.results.toList.length=1) (h:∀ c,LC P f none c (Dk 0 (Bl fn)) (ADY P fn.results.toList res Nn) ⟨Em 0 args,[]⟩):FnN P f args res Nn:=by
 intro m ℓ hmode
 simp only[Bool.and_eq_true,Bool.not_eq_true'] at hok hN
 obtain⟨⟨h1,h2⟩,h3⟩:=hok
 obtain⟨hN,hR⟩:=hN
 simp only[decide_eq_true_eq] at ha
 have hlen:∀ {l:List LA},(LAs.av ℓ l).length=l.length:=by
  intro l;induction l with
  | nil=>rfl
  | cons x l ih=>simp only[LAs.av,List.length_cons,ih]
 have hgetl:∀ {l:List LA} {j:Nat} {x:LA},l[j]?=some x→(LAs.av ℓ l)[j]?=some (LA.av ℓ x):=by
  intro l;induction l with
  | nil=>intro j x h;simp at h
  | cons y l ih =>
   intro j x h
   cases j with
   | zero=>simp at h;subst h;rfl
   | succ j=>simp only[LAs.av,List.getElem?_cons_succ] at h ⊢;exact ih h
 cases hbb:fn.body with
 | none=>rw[hbb] at h1;cases h1
 | some cb =>
  let cc:FM:=⟨m,[],fun _=>False,fun p hp=>by cases hp⟩
  have noV:∀ {i s es},¬ Vis ⟨Em 0 args,[]⟩ i s es:=by
   rintro i s es (⟨t,v,h4,h5⟩|⟨t,cs,h4,_⟩)
   ·exact(HB (P:=P) (ℓ:=ℓ) args 0 t v h4).2.2 i s es h5
   ·cases h4
  have hrel:Rel P cc ⟨Em 0 args,[]⟩ (LAs.av ℓ args++List.replicate (fn.ntmps - (LAs.av ℓ args).length) AV.undef) m:=by
   refine⟨[],ℓ,fun _=>.full,hmode,fun t v h4 _=>?_,fun t cs h4=>(by cases h4),fun i s es hv=>(noV hv).elim,fun i s es j s' es' hv hv'=>(noV hv).elim,fun t t' k k' h4=>(by cases h4),fun p hp=>(by cases hp),fun t cs h4=>(by cases h4),fun i s es hv id hid=>(noV hv).elim,⟨Nat.le_refl _,Nat.le_refl _⟩,fun l b h4 _=>h4,fun id x h4 _=>h4,fun q hq=>(by cases hq),fun q hq=>(by cases hq)⟩
   obtain⟨_,⟨x,h5,h6⟩,_⟩:=HB (P:=P) (ℓ:=ℓ) args 0 t v h4
   rw[Nat.sub_zero] at h5
   have h7:=hgetl h5
   exact⟨_,by rw[List.getElem?_append_left (List.getElem?_eq_some_iff.1 h7).1];exact h7,h6⟩
  obtain⟨x,hx⟩:∃ x,fn.results.toList=[x]:=by
   rcases hr:fn.results.toList with _ | ⟨x,_ | ⟨y,l⟩⟩
   ·rw[hr] at hone;cases hone
   ·exact⟨x,rfl⟩
   ·rw[hr] at hone;cases hone
  obtain⟨env',m',fr,ℓ',ρ',L',g3,⟨g5,g6⟩,gR⟩:=LC.resultR (c:=cc) (x:=x) (Q:=fun L=>WL L.N Nn∧vw [] (Ci P L x) res) hmix hf hbb h2 h3 (by rw[hlen];exact ha) hrel hx (LC.mono (fun e L h=>by
   rw[hx] at h
   cases e <;> first | exact h.elim | skip
   ·obtain⟨y,e,h⟩:=h;injection e with e;subst e;exact⟨.inr rfl,h⟩
   ·obtain⟨y,e,h⟩:=h;injection e with e;subst e;exact⟨.inl rfl,h⟩) (h cc))
  have hv:∃ a,BK P [] ℓ' (fun _=>.full) res a∧EB P f (LAs.av ℓ args) m a m':=by
   cases hl:Ci P L' x with
   | none=>rw[hl] at g6;exact g6.elim
   | some v =>
    rw[hl] at g6
    have hd:v≠.dead:=by rintro rfl;exact g6.elim
    obtain⟨a,k1,_,k3⟩:=gR v hl hd
    cases v <;> cases res <;> simp only[vw] at g6 <;> first | (cases hR;done) | skip
    ·obtain⟨rfl,rfl⟩:=g6
     have e:a=.ptr (ℓ' _) _:=k1
     subst e
     exact⟨_,rfl,k3⟩
    ·subst g6
     have e:a=.map (ℓ' _):=k1
     subst e
     exact⟨_,rfl,k3⟩
  obtain⟨a,ha1,ha2⟩:=hv
  have pre:∀ {α:Type} {l l':List α},(∀ (i:Nat) (x:α),l[i]?=some x→l'[i]?=some x)→∃ y,l'=l++y:=by
   intro α l
   induction l with
   | nil=>intro l' _;exact⟨l',rfl⟩
   | cons x l ih =>
    intro l' hp
    cases l' with
    | nil=>have:=hp 0 x rfl;cases this
    | cons z l' =>
     have e:=hp 0 x rfl
     simp at e;subst e
     obtain⟨y,rfl⟩:=ih (l':=l') (fun i w hw=>by simpa using hp (i+1) w (by simpa using hw))
     exact⟨y,rfl⟩
  refine⟨m',ℓ',a,ha2,⟨pre fun i b hb=>g3.frame i b hb (fun p hp=>by cases hp),pre fun i b hb=>g3.rframe i b hb (fun hF=>hF),by rw[g3.mode,hmode]⟩,ha1,fun t cs ht=>?_,fun t t' cs cs' ht ht' e=>g3.inj t t' cs cs' (TZ g5 t cs ht) (TZ g5 t' cs' ht') e⟩
  have ht':=TZ g5 t cs ht
  obtain⟨hro,href⟩:=ADu hN t cs ht
  obtain⟨b,q1,q2⟩:=g3.locs t cs ht'
  refine⟨?_,b,q1,AEz href q2⟩
  rcases g3.low t cs ht' with q | ⟨p,hp,_⟩ | q
  ·exact q
  ·cases hp
  ·omega
omit [Mu] in
theorem scN:∀ c∈([]:List AV),Kf c:=fun c h=>by cases h
omit [Mu] in
theorem scC {a:AV} {l:List AV} (h:Kf a) (k:∀ c∈l,Kf c):∀ c∈a :: l,Kf c:=fun c hc=>(List.mem_cons.1 hc).elim (fun e=>e ▸ h) (k c)
end
@[go_sem] theorem AQq (a:Int):(a<a+1)=True:=eq_true (by omega)
attribute [go_sem] WL bindN Hq Ll Sg MA
attribute [go_sem] vwG ACP AFy Option.some_or Option.none_or not_true_eq_false not_false_eq_true if_true if_false List.getElem?_map Option.map_some Option.bind_some List.getElem?_cons_zero List.getElem?_cons_succ LV.toks LV.resOk CV.resOk List.append_nil List.nil_append List.cons_append
theorem ACL [Mu] {P:Program} {L:AM} {x:ResultVar} {res:LV} {Nn:List (Nat × List CV)}:ADY P [x] res Nn .ret L=(WL L.N Nn∧vw [] (Ci P L x) res):=propext ⟨fun ⟨y,e,h⟩=>by injection e with e;subst e;exact h,fun h=>⟨x,rfl,h⟩⟩
attribute [go_sem ↓] ACL
theorem Nv.newOf [Mu] {P:Program} {f:FuncId} {pos:Fu} {L:AM} {K:LV→AM→List Nat→Prop} {args args':List LA} (τ:List (Nat × Nat)) (v:LV) {Nn:List (Nat × List CV)} {res:LV} (h:FnN P f args' res Nn) (ha:args=args') (hb:Hq τ [] Nn L=true) (hr:Sg Nn τ res=some v) (hk:K v (bindN τ Nn L) []):Nv P f args pos L K:=by
 subst ha;exact .new τ Nn res v h hb hr hk
theorem AAE {P:Program} {t e:TypeId} {l off:Nat} (h:P.underlying t=some (.pointer e)):Bq P .eql t (.ptr l off) (.atom (.pointer none))=some (.bool false):=by simp only[Bq,h]
@[go_sem] theorem AJ4:Ez (.pointer none)=some (.atom (.pointer none)):=rfl
attribute [go_sem] OV
def Ga (s:AC):Value:=.int .u64 s.toNat
def Ev {κ α:Type} (E:κ→Value) (F:α→AV) (es:List (κ × α)):List (Value × AV):=es.map fun e=>(E e.1,F e.2)
def CP {κ α:Type} [BEq κ] (k:κ):List (κ × α)→Option α
 | []=>none
 | e :: l=>if(k == e.1)=true then some e.2 else CP k l
def Pe {κ α:Type} [BEq κ] (es:List (κ × α)) (k:κ) (z:α):Option (α × Bool) :=
 match CP k es with
 | some v=>some (v,true)
 | none=>some (z,false)
def Hh {κ α:Type} [BEq κ] (k:κ) (v:α):List (κ × α)→List (κ × α)
 | []=>[(k,v)]
 | e :: l=>if(k == e.1)=true then(k,v) :: l else e :: Hh k v l
theorem MY (a b:AC):Go.Instr.sameNow (.int .u64) (Ga a) (Ga b)=some (a == b):=by
 simp only[Ga,Go.Instr.sameNow,if_true]
 congr 1
 rw[Bool.eq_iff_iff]
 simp only[beq_iff_eq]
 exact⟨fun h=>BitVec.eq_of_toNat_eq (by exact_mod_cast h),fun h=>by rw[h]⟩
def Li {κ α:Type} [BEq κ] (k:κ):List (κ × α)→Nat→Option (Nat × α)
 | [],_=>none
 | e :: l,i=>if(k == e.1)=true then some (i,e.2) else Li k l (i+1)
theorem AFA {κ α:Type} [BEq κ] (k:κ):∀ (l:List (κ × α)) (i:Nat),(Li k l i).map (·.2)=CP k l:=by
 intro l
 induction l with
 | nil=>intro i;rfl
 | cons e l ih =>
  intro i
  simp only[Li,CP]
  split
  ·rfl
  ·exact ih (i+1)
theorem Wl {κ α:Type} [BEq κ] {kd:TypeDesc} {E:κ→Value} {F:α→AV} (hs:∀ a b,Go.Instr.sameNow kd (E a) (E b)=some (a == b)) (k:κ):∀ (l:List (κ × α)) (i:Nat),KA kd (E k) (Ev E F l) i=some ((Li k l i).map fun q=>(q.1,F q.2)):=by
 intro l
 induction l with
 | nil=>intro i;rfl
 | cons e l ih =>
  intro i
  simp only[Ev,List.map_cons,KA,hs,Li]
  cases h:(k == e.1)
  ·simp only[Bool.false_eq_true,if_false];exact ih (i+1)
  ·simp only[if_true,Option.map_some]
theorem ABK {α:Type} (f:α→α) (x:α) (l:List α):∀ pre:List α,(pre++x :: l).modify pre.length f=pre++f x :: l:=by
 intro pre
 induction pre with
 | nil=>rfl
 | cons y pre ih=>simpa using ih
theorem AGh {κ α:Type} [BEq κ] {E:κ→Value} {F:α→AV} (k:κ) (v:α):∀ (l:List (κ × α)) (i:Nat) (pre:List (Value × AV)),pre.length=i→NS (pre++Ev E F l) (E k) (F v) ((Li k l i).map fun q=>(q.1,F q.2))=pre++Ev E F (Hh k v l):=by
 intro l
 induction l with
 | nil=>intro i pre _;simp[Ev,Li,NS,Hh]
 | cons e l ih =>
  intro i pre hi
  simp only[Li,Hh]
  cases h:(k == e.1)
  ·simp only[Bool.false_eq_true,if_false]
   have:=ih (i+1) (pre++[(E e.1,F e.2)]) (by simp[hi])
   simpa [Ev] using this
  ·simp only[if_true,Option.map_some,NS,Ev,List.map_cons]
   subst hi
   rw[ABK]
theorem LLook.map [Mu] {P:Program} {κ α:Type} [BEq κ] {kd:TypeDesc} {vt:TypeId} {kv0:Value} {es0:List (Value × AV)} {L:AM} {K:LV→AM→List Nat→Prop} (E:κ→Value) (F:α→AV) {es:List (κ × α)} {k:κ} {z:α} {v:α × Bool} (hv:Pe es k z=some v)
  (hs:∀ a b,Go.Instr.sameNow kd (E a) (E b)=some (a == b)) (hz:AHF P vt=some (F z)) (he:es0=Ev E F es) (hk:kv0=E k) (h:K (.v (.tuple [F v.1,.bool v.2])) L []) :
  Gj ((KA kd kv0 es0 0).bind fun r=>(LK P vt true r).map fun x=>(.v x,L,[])) K:=by
 subst he hk
 rw[Wl hs]
 simp only[Option.bind_some]
 unfold Pe at hv
 rw[← AFA k es 0] at hv
 cases hg:Li k es 0 with
 | none =>
  rw[hg] at hv
  simp only[Option.map_none] at hv
  injection hv with hv;subst hv
  simp only[Option.map_none,LK,hz,Option.map_some,if_true,Gj];exact h
 | some q =>
  rw[hg] at hv
  simp only[Option.map_some] at hv
  injection hv with hv;subst hv
  simp only[Option.map_some,LK,if_true,Gj];exact h
theorem LMset.map [Mu] {κ α:Type} [BEq κ] {kd:TypeDesc} {kv0:Value} {es0:List (Value × AV)} {y:AV} {S:List (Nat × LV)} {N:List (Nat × List CV)} {n:Nat} {K:LV→AM→List Nat→Prop} (E:κ→Value) (F:α→AV) {es:List (κ × α)} {k:κ} {v:α}
  (hs:∀ a b,Go.Instr.sameNow kd (E a) (E b)=some (a == b)) (he:es0=Ev E F es) (hk:kv0=E k) (hy:y=F v) (h:K (.v .undef) ⟨S,(n,[.mp (Ev E F (Hh k v es))]) :: N⟩ []) :
  Gj ((KA kd kv0 es0 0).map fun r=>(.v .undef,(⟨S,(n,[.mp (NS es0 kv0 y r)]) :: N⟩:AM),[])) K:=by
 subst he hk hy
 rw[Wl hs]
 simp only[Option.map_some,Gj]
 have:=AGh (E:=E) (F:=F) k v es 0 [] rfl
 simp only[List.nil_append] at this
 rw[this];exact h
end
section
abbrev EP:=Exit→AM→Prop
def PC {α β:Type} (M:α→Option β) (P:α→β→Prop):Prop:=∀ x r,M x=some r→P x r
class AH {α β:Type} (M:α→Option β) (P:outParam (α→β→Prop)):Prop where
 w:PC M P
class IS (P:Program) (t:Nat) (α:outParam Type) (F:outParam (α→AV)) (el s b:outParam Nat):Prop where
 h1:Bn P t=some el
 h3:Av P el=some s
 h4:ER P el=some b
 h5:Dh P el=some s
 hc:(decide (0<s)&&decide (0<b))=true
 hF:∀ x,(F x).cells.length=s
def okF (fn : Func) : Bool := fn.body.isSome && !(fn.name == "runtime.NumGoroutine") && okL (Bl fn) fn.ntmps (Bl fn)
def AGk:CV→Option Nat
 | .own i _ _=>some i
 | .v _=>none
 | .fn _ _ _=>none
 | .p _=>none
 | .m _=>none
 | .mp _=>none
 | .dead=>none
def AG1:LV→Option Nat
 | .own i _ _=>some i
 | .v _=>none
 | .ag _=>none
 | .lref _ _=>none
 | .fn _ _ _=>none
 | .iter _=>none
 | .vref _ _ _ _=>none
 | .vsub _ _ _ _=>none
 | .mref _=>none
 | .dead=>none
def sgE:Option Nat→Option Nat→List (Nat × Option Nat)
 | none,_=>[]
 | some j,i=>[(j,i)]
def ACK:List CV→List CV→List (Nat × Option Nat)
 | [],_=>[]
 | _ :: _,[]=>[]
 | d :: ds,c :: cs=>sgE (AGk d) (AGk c)++ACK ds cs
def YK:LV→List CV
 | .ag cs=>cs
 | .own _ _ _=>[]
 | .v _=>[]
 | .lref _ _=>[]
 | .fn _ _ _=>[]
 | .iter _=>[]
 | .vref _ _ _ _=>[]
 | .vsub _ _ _ _=>[]
 | .mref _=>[]
 | .dead=>[]
def sgV (v:LV):Option LV→List (Nat × Option Nat)
 | none=>[]
 | some u=>sgE (AG1 v) (AG1 u)++ACK (YK v) (YK u)
def sgS (S:List (Nat × LV)):List (Nat × LV)→List (Nat × Option Nat)
 | []=>[]
 | (t,v) :: l=>sgV v (AI S t)++sgS S l
def sgO (cs:List CV):Option (List CV)→List (Nat × Option Nat)
 | none=>[]
 | some ds=>ACK cs ds
def sgN (N:List (Nat × List CV)):List (Nat × List CV)→List (Nat × Option Nat)
 | []=>[]
 | (n,cs) :: l=>sgO cs (AI N n)++sgN N l
def ACB (L L':AM):List (Nat × Option Nat):=sgS L.S L'.S++sgN L.N L'.N
attribute [go_sem] AGk AG1 sgE ACK YK sgV sgS sgO sgN ACB List.nil_append List.cons_append
theorem itE {α:Type} {c:Bool} {a b:Option α} {r:α} {G:Prop} (t:c=true→a=some r→G) (e:c=false→b=some r→G):(if c=true then a else b)=some r→G:=by
 intro h
 cases c with
 | true=>exact t rfl (by simpa using h)
 | false=>exact e rfl (by simpa using h)
theorem nzE {α:Type} {c:Prop} [Decidable c] {x:Option α} {r:α} {G:Prop} (k:¬ c→x=some r→G):(if c then none else x)=some r→G:=fun h=>k (ABB h).1 (ABB h).2
theorem AO3 {α:Type} {c:Prop} [Decidable c] {x:Option α} {r:α} {G:Prop} (k:c→x=some r→G):(if c then x else none)=some r→G:=fun h=>k (Zg h).1 (Zg h).2
theorem AMh {α β:Type} {a:Option α} {f:α→Option β} {r:β} {G:Prop} (k:∀ v,a=some v→f v=some r→G):(a>>=f)=some r→G:=by
 intro h
 obtain⟨v,h1,h2⟩:=AE h
 exact k v h1 h2
theorem APi {α:Type} {l:List α} {i:Int} {x:α} {G:Prop} (k:0≤i→l[i.toNat]?=some x→G):AX l i=some x→G:=fun h=>k (Dw h).1 (Dw h).2
theorem ANO {α:Type} {b:Nat} {xs ys zs:List α} {G:Prop} (k:(xs.length+ys.length) * b≤140737488355328→zs=xs++ys→G):room b xs ys=some zs→G:=fun h=>k (Jq h).1 (Jq h).2
theorem ACM {α:Type} {x r:α} {G:Prop} (k:x=r→G):some x=some r→G:=fun h=>k (Option.some.inj h)
section
variable [Mu] {P:Program} {c:FM} {L:AM} {f:FuncId} {lo:Option Nat}
theorem AJ.viewA {L':AM} {k:Nat} {Q:Exit→AM→Prop} (h:AJ P f lo c k Q L') (hv:RD (ACB L L') L L'):AJ P f lo c k Q L:=h.view _ hv
theorem VQ.outA {Q:Exit→AM→Prop} {x:Exit} {L L':AM} (h:Q x L') (hv:RD (ACB L L') L L'):VQ Q x L:=.inr ⟨_,_,hv,h⟩
theorem Gk.mapA {α:Type} {F:α→AV} {t el s b dd i:Nat} [e:IS P t α F el s b] {xs ys:List α} {es zs:List AV} {K:LV→AM→List Nat→Prop} (hlen:(xs.length+ys.length) * b≤140737488355328)
  (hes:es=xs.map F) (hzs:zs=ys.map F) (h:K (.own dd s ((xs++ys).map F)) (EZ i dd L) []):Gk (IB P t t es zs) dd (some (i,s)) es zs L K :=
 .map e.h1 e.h3 e.h4 e.h5 e.hc e.hF hes hzs hlen h
theorem Gk.mapFullA {α:Type} {F:α→AV} {t el s b dd:Nat} [e:IS P t α F el s b] {xs ys:List α} {es zs:List AV} {K:LV→AM→List Nat→Prop} (hlen:(xs.length+ys.length) * b≤140737488355328)
  (hes:es=xs.map F) (hzs:zs=ys.map F) (h:K (.own dd s ((xs++ys).map F)) (EZ dd dd L) []):Gk (IB P t t es zs) dd none es zs L K :=
 .mapFull e.h1 e.h3 e.h4 e.h5 e.hc e.hF hes hzs hlen h
end
theorem AL {G:Prop} (k:G:=by first | rfl | (simp -implicitDefEqProofs only[go_sem, *, -h] <;> rfl) | (simp -implicitDefEqProofs only[go_sem, *] <;> rfl)):G:=k
theorem AN {G:Prop} (k:G:=by
  repeat' first
    | (revert h;(with_reducible refine itE (fun hc h=>?_) (fun hc h=>?_)) <;> ((first | (with_reducible have hd:=Oa hc) | (with_reducible have hd:=AMM hc) | (with_reducible have hd:=YE hc) | (with_reducible have hd:=ANY hc) | skip);try simp -implicitDefEqProofs only[go_sem, *, -h]))
    | (revert h;(first | (with_reducible refine nzE (fun hc h=>?_)) | (with_reducible refine AO3 (fun hc h=>?_)));try simp -implicitDefEqProofs only[go_sem, *, -h])
    | (revert h;(with_reducible refine AMh (fun v hv h=>?_))
       first
       | (revert hv;(with_reducible refine APi (fun hw hv=>?_));try simp -implicitDefEqProofs only[go_sem, *, -h])
       | (revert hv;(with_reducible refine ANO (fun hv hw=>?_));subst hw;(first | refine Gk.mapA hv ?_ ?_ ?_ | refine Gk.mapFullA hv ?_ ?_ ?_);exact AL;exact AL;try simp -implicitDefEqProofs only[go_sem, *, -h])
       | (have w:=AH.w _ _ hv
          first
          | (refine Nv.plain _ _ rfl w ?_;clear w;try simp -implicitDefEqProofs only[go_sem, *, -h])
          | (simp -implicitDefEqProofs only[go_sem] at w;refine Nv.plain _ _ rfl w ?_;clear w;try simp -implicitDefEqProofs only[go_sem, *, -h])
          | (refine AJ.viewQ (AJ.viewA (w _ _ _ ?_) ?_);rotate_left;exact AL;clear w;intro s hs;subst hs;(try dsimp only at h);try simp -implicitDefEqProofs only[go_sem, *, -h])
          | (refine AJ.viewQ (AJ.viewA (w _ _ _ ?_) ?_);rotate_left;exact AL;clear w;intro L' hL
             revert h;(with_reducible refine ACM (fun h=>?_));subst h
             try simp -implicitDefEqProofs only[go_sem]
             first
             | exact .inl (hr _ _ rfl hL)
             | exact .inl (hr _ rfl hL)
             | exact .inl (hr _ hL)
             | exact hL
             | (simp -implicitDefEqProofs only[go_sem] at hL;exact hL))
          | (refine AJ.viewQ (AJ.viewA (w _ _ _ ?_ ?_) ?_);rotate_right;exact AL
             rotate_left;clear w
             · intro s L' hs hL;subst hs;(try dsimp only at h)
               revert h;(with_reducible refine ACM (fun h=>?_));subst h
               try simp -implicitDefEqProofs only[go_sem]
               first
               | exact .inl (hr _ _ rfl hL)
               | exact .inl (hr _ rfl hL)
               | exact .inl (hr _ hL)
               | exact hL
               | (simp -implicitDefEqProofs only[go_sem] at hL;exact hL)
             clear w;intro s hs;subst hs;(try dsimp only at h)
             try simp -implicitDefEqProofs only[go_sem, *, -h]))
       | (try simp -implicitDefEqProofs only[go_sem, *, -h]))
    | (have w:=AH.w _ _ h
       first
       | (refine AJ.viewA (w lo c Q hb) ?_;exact AL)
       | (refine AJ.viewA (w lo c Q hb hr) ?_;exact AL)
       | (refine AJ.viewA (w lo c Q hr) ?_;exact AL))
    | (revert h;(with_reducible refine ACM (fun h=>?_));subst h
       first
       | (refine VQ.outA (hb _ rfl) ?_;(simp -implicitDefEqProofs only[go_sem, *] <;> first | done | rfl | trivial))
       | exact .inl (hr _ _ rfl (by first | rfl | (simp -implicitDefEqProofs only[go_sem, *] <;> rfl)))
       | exact .inl (hr _ (by first | rfl | (simp -implicitDefEqProofs only[go_sem, *] <;> rfl)))
       | rfl
       | (simp -implicitDefEqProofs only[go_sem, *] <;> rfl))):G:=k
end
section
structure BV where
 Null:Bool
 N:Int
def BV.C (x:BV):List AV:=[.bool x.Null,.i64 x.N]
attribute [go_sem] BV.C
theorem BV.flatC (x:BV):Bo (.agg x.C):=.agg _ (flC (.atom _) (flC (.atom _) (flN)))
structure BE where
 Kind:Int
 Table:Int
 Col:Int
 Value:BV
def BE.C (x:BE):List AV:=[.i64 x.Kind,.i64 x.Table,.i64 x.Col,.bool x.Value.Null,.i64 x.Value.N]
attribute [go_sem] BE.C
theorem BE.flatC (x:BE):Bo (.agg x.C):=.agg _ (flC (.atom _) (flC (.atom _) (flC (.atom _) (flC (.atom _) (flC (.atom _) (flN))))))
structure AB where
 Kind:Int
 Truth:Int
 Op:Int
 A:BE
 B:BE
 Parts:List AB
def AB.av:AB→AV
 | ⟨a0,a1,a2,a3,a4,a5⟩=>.agg [.i64 a0,.i64 a1,.i64 a2,.i64 a3.Kind,.i64 a3.Table,.i64 a3.Col,.bool a3.Value.Null,.i64 a3.Value.N,.i64 a4.Kind,.i64 a4.Table,.i64 a4.Col,.bool a4.Value.Null,.i64 a4.Value.N,.slice .foreign (a5.map AB.av)]
def AB.C (x:AB):List AV:=[.i64 x.Kind,.i64 x.Truth,.i64 x.Op,.i64 x.A.Kind,.i64 x.A.Table,.i64 x.A.Col,.bool x.A.Value.Null,.i64 x.A.Value.N,.i64 x.B.Kind,.i64 x.B.Table,.i64 x.B.Col,.bool x.B.Value.Null,.i64 x.B.Value.N,.slice .foreign (x.Parts.map AB.av)]
theorem AB.av_eq (x:AB):x.av=.agg x.C:=by cases x;simp only[AB.av,AB.C]
attribute [go_sem] AB.C AB.av_eq
theorem AB.induct {M:AB→Prop} (h:∀ x:AB,(∀ y∈x.Parts,M y)→M x):∀ x,M x:=by
 intro x
 refine AB.rec (motive_1:=M) (motive_2:=fun l=>∀ y∈l,M y) ?_ ?_ ?_ x
 ·intro a0 a1 a2 a3 a4 a5 ih;exact h ⟨a0,a1,a2,a3,a4,a5⟩ ih
 ·intro y hy;cases hy
 ·intro y l h1 h2 z hz
  rcases List.mem_cons.1 hz with rfl | hz
  ·exact h1
  ·exact h2 z hz
theorem AB.flat (x:AB):Bo x.av:=by
 induction x using AB.induct with
 | h x ih =>
  rw[AB.av_eq]
  refine .agg _ (flC (.atom _) (flC (.atom _) (flC (.atom _) (flC (.atom _) (flC (.atom _) (flC (.atom _) (flC (.atom _) (flC (.atom _) (flC (.atom _) (flC (.atom _) (flC (.atom _) (flC (.atom _) (flC (.atom _) (flC ?_ (flN)))))))))))))))
  refine .slice .foreign _ (fun id h=>by cases h) (fun e he c hc=>?_)
  obtain⟨p,hp,rfl⟩:=List.mem_map.1 he
  exact OG (ih p hp) c hc
theorem AB.flatC (x:AB):Bo (.agg x.C):=by rw[← AB.av_eq];exact x.flat
theorem AB.len (x:AB):x.av.cells.length=14:=by rw[AB.av_eq];rfl
structure AA where
 Kind:Int
 Table:Int
 Kids:List AA
 Conj:List AB
 Hash:Bool
def AA.av:AA→AV
 | ⟨a0,a1,a2,a3,a4⟩=>.agg [.i64 a0,.i64 a1,.slice .foreign (a2.map AA.av),.slice .foreign (a3.map AB.av),.bool a4]
def AA.C (x:AA):List AV:=[.i64 x.Kind,.i64 x.Table,.slice .foreign (x.Kids.map AA.av),.slice .foreign (x.Conj.map AB.av),.bool x.Hash]
theorem AA.av_eq (x:AA):x.av=.agg x.C:=by cases x;simp only[AA.av,AA.C]
attribute [go_sem] AA.C AA.av_eq
theorem AA.induct {M:AA→Prop} (h:∀ x:AA,(∀ y∈x.Kids,M y)→M x):∀ x,M x:=by
 intro x
 refine AA.rec (motive_1:=M) (motive_2:=fun l=>∀ y∈l,M y) ?_ ?_ ?_ x
 ·intro a0 a1 a2 a3 a4 ih;exact h ⟨a0,a1,a2,a3,a4⟩ ih
 ·intro y hy;cases hy
 ·intro y l h1 h2 z hz
  rcases List.mem_cons.1 hz with rfl | hz
  ·exact h1
  ·exact h2 z hz
theorem AA.flat (x:AA):Bo x.av:=by
 induction x using AA.induct with
 | h x ih =>
  rw[AA.av_eq]
  refine .agg _ (flC (.atom _) (flC (.atom _) (flC ?_ (flC (AQ _ AB.flat _) (flC (.atom _) (flN))))))
  refine .slice .foreign _ (fun id h=>by cases h) (fun e he c hc=>?_)
  obtain⟨p,hp,rfl⟩:=List.mem_map.1 he
  exact OG (ih p hp) c hc
theorem AA.flatC (x:AA):Bo (.agg x.C):=by rw[← AA.av_eq];exact x.flat
theorem AA.len (x:AA):x.av.cells.length=5:=by rw[AA.av_eq];rfl
structure Ba where
 Cols:List Int
 Root:AA
def Ba.C (x:Ba):List AV:=[.slice .foreign (x.Cols.map AV.i64),.i64 x.Root.Kind,.i64 x.Root.Table,.slice .foreign (x.Root.Kids.map AA.av),.slice .foreign (x.Root.Conj.map AB.av),.bool x.Root.Hash]
attribute [go_sem] Ba.C
theorem Ba.flatC (x:Ba):Bo (.agg x.C):=.agg _ (flC (AQ _ (fun _=>.atom _) _) (flC (.atom _) (flC (.atom _) (flC (AQ _ AA.flat _) (flC (AQ _ AB.flat _) (flC (.atom _) (flN)))))))
structure Bb where
 Rows:List AC
 Sel:List AC
def Bb.C (x:Bb):List AV:=[.slice .foreign (x.Rows.map AV.w),.slice .foreign (x.Sel.map AV.w)]
attribute [go_sem] Bb.C
theorem Bb.flatC (x:Bb):Bo (.agg x.C):=.agg _ (flC (AQ _ (fun _=>.atom _) _) (flC (AQ _ (fun _=>.atom _) _) (flN)))
structure AD where
 Kind:Int
 Preds:List AB
 Uses:AC
 Left:AC
 Right:AC
def AD.C (x:AD):List AV:=[.i64 x.Kind,.slice .foreign (x.Preds.map AB.av),.w x.Uses,.w x.Left,.w x.Right]
def AD.av (x:AD):AV:=.agg x.C
attribute [go_sem] AD.C AD.av
theorem AD.flatC (x:AD):Bo (.agg x.C):=.agg _ (flC (.atom _) (flC (AQ _ AB.flat _) (flC (.atom _) (flC (.atom _) (flC (.atom _) (flN))))))
theorem AD.flat (x:AD):Bo x.av:=x.flatC
theorem AD.len (x:AD):x.av.cells.length=5:=rfl
structure Ae where
 Kind:Int
 Edges:List AD
 Stats:Bb
def Ae.C (x:Ae):List AV:=[.i64 x.Kind,.slice .foreign (x.Edges.map AD.av),.slice .foreign (x.Stats.Rows.map AV.w),.slice .foreign (x.Stats.Sel.map AV.w)]
attribute [go_sem] Ae.C
theorem Ae.flatC (x:Ae):Bo (.agg x.C):=.agg _ (flC (.atom _) (flC (AQ _ AD.flat _) (flC (AQ _ (fun _=>.atom _) _) (flC (AQ _ (fun _=>.atom _) _) (flN)))))
structure Aj where
 Kind:Int
 Edges:List AD
 Stats:Bb
def Aj.C (x:Aj):List AV:=[.i64 x.Kind,.slice .foreign (x.Edges.map AD.av),.slice .foreign (x.Stats.Rows.map AV.w),.slice .foreign (x.Stats.Sel.map AV.w)]
attribute [go_sem] Aj.C
theorem Aj.flatC (x:Aj):Bo (.agg x.C):=.agg _ (flC (.atom _) (flC (AQ _ AD.flat _) (flC (AQ _ (fun _=>.atom _) _) (flC (AQ _ (fun _=>.atom _) _) (flN)))))
structure AW where
 Kind:Int
 Edges:List Int
 Preds:List AB
def AW.C (x:AW):List AV:=[.i64 x.Kind,.slice .foreign (x.Edges.map AV.i64),.slice .foreign (x.Preds.map AB.av)]
attribute [go_sem] AW.C
theorem AW.flatC (x:AW):Bo (.agg x.C):=.agg _ (flC (.atom _) (flC (AQ _ (fun _=>.atom _) _) (flC (AQ _ AB.flat _) (flN))))
structure Ai where
 Kind:Int
 Edges:List Int
 Preds:List AB
def Ai.C (x:Ai):List AV:=[.i64 x.Kind,.slice .foreign (x.Edges.map AV.i64),.slice .foreign (x.Preds.map AB.av)]
attribute [go_sem] Ai.C
theorem Ai.flatC (x:Ai):Bo (.agg x.C):=.agg _ (flC (.atom _) (flC (AQ _ (fun _=>.atom _) _) (flC (AQ _ AB.flat _) (flN))))
structure AO where
 Pred:AB
 Left:AC
 Right:AC
 Home:Int
def AO.C (x:AO):List AV:=[.i64 x.Pred.Kind,.i64 x.Pred.Truth,.i64 x.Pred.Op,.i64 x.Pred.A.Kind,.i64 x.Pred.A.Table,.i64 x.Pred.A.Col,.bool x.Pred.A.Value.Null,.i64 x.Pred.A.Value.N,.i64 x.Pred.B.Kind,.i64 x.Pred.B.Table,.i64 x.Pred.B.Col,.bool x.Pred.B.Value.Null,.i64 x.Pred.B.Value.N,.slice .foreign (x.Pred.Parts.map AB.av),.w x.Left,.w x.Right,.i64 x.Home]
def AO.av (x:AO):AV:=.agg x.C
attribute [go_sem] AO.C AO.av
theorem AO.flatC (x:AO):Bo (.agg x.C):=.agg _ (flC (.atom _) (flC (.atom _) (flC (.atom _) (flC (.atom _) (flC (.atom _) (flC (.atom _) (flC (.atom _) (flC (.atom _) (flC (.atom _) (flC (.atom _) (flC (.atom _) (flC (.atom _) (flC (.atom _) (flC (AQ _ AB.flat _) (flC (.atom _) (flC (.atom _) (flC (.atom _) (flN))))))))))))))))))
theorem AO.flat (x:AO):Bo x.av:=x.flatC
theorem AO.len (x:AO):x.av.cells.length=17:=rfl
structure AK where
 Kind:Int
 Conj:List AB
 Left:AC
 Right:AC
 Own:AC
 Home:Int
def AK.C (x:AK):List AV:=[.i64 x.Kind,.slice .foreign (x.Conj.map AB.av),.w x.Left,.w x.Right,.w x.Own,.i64 x.Home]
def AK.av (x:AK):AV:=.agg x.C
attribute [go_sem] AK.C AK.av
theorem AK.flatC (x:AK):Bo (.agg x.C):=.agg _ (flC (.atom _) (flC (AQ _ AB.flat _) (flC (.atom _) (flC (.atom _) (flC (.atom _) (flC (.atom _) (flN)))))))
theorem AK.flat (x:AK):Bo x.av:=x.flatC
theorem AK.len (x:AK):x.av.cells.length=6:=rfl
structure AG where
 Joins:List AO
 Ops:List AK
def AG.C (x:AG):List AV:=[.slice .foreign (x.Joins.map AO.av),.slice .foreign (x.Ops.map AK.av)]
attribute [go_sem] AG.C
theorem AG.flatC (x:AG):Bo (.agg x.C):=.agg _ (flC (AQ _ AO.flat _) (flC (AQ _ AK.flat _) (flN)))
structure AT where
 model:Ae
 by_:Unit
structure AF where
 thing:AA
 costs:AC
 first:AC
def AF.C (x:AF):List AV:=[.i64 x.thing.Kind,.i64 x.thing.Table,.slice .foreign (x.thing.Kids.map AA.av),.slice .foreign (x.thing.Conj.map AB.av),.bool x.thing.Hash,.w x.costs,.w x.first]
def AF.av (x:AF):AV:=.agg x.C
attribute [go_sem] AF.C AF.av
theorem AF.flatC (x:AF):Bo (.agg x.C):=.agg _ (flC (.atom _) (flC (.atom _) (flC (AQ _ AA.flat _) (flC (AQ _ AB.flat _) (flC (.atom _) (flC (.atom _) (flC (.atom _) (flN))))))))
structure EH where
 inner:Bool
 fits:Bool
 turned:Bool
def EH.C (x:EH):List AV:=[.bool x.inner,.bool x.fits,.bool x.turned]
attribute [go_sem] EH.C
theorem EH.flatC (x:EH):Bo (.agg x.C):=.agg _ (flC (.atom _) (flC (.atom _) (flC (.atom _) (flN))))
structure AR where
 e0:BE
 e1:BE
def AR.C (x:AR):List AV:=[.i64 x.e0.Kind,.i64 x.e0.Table,.i64 x.e0.Col,.bool x.e0.Value.Null,.i64 x.e0.Value.N,.i64 x.e1.Kind,.i64 x.e1.Table,.i64 x.e1.Col,.bool x.e1.Value.Null,.i64 x.e1.Value.N]
def AR.av (x:AR):AV:=.agg x.C
attribute [go_sem] AR.C AR.av
theorem AR.flatC (x:AR):Bo (.agg x.C):=.agg _ (flC (.atom _) (flC (.atom _) (flC (.atom _) (flC (.atom _) (flC (.atom _) (flC (.atom _) (flC (.atom _) (flC (.atom _) (flC (.atom _) (flC (.atom _) (flN)))))))))))
theorem AR.flat (x:AR):Bo x.av:=x.flatC
theorem AR.len (x:AR):x.av.cells.length=10:=rfl
structure CB where
 e0:Int
 e1:Int
def CB.C (x:CB):List AV:=[.i64 x.e0,.i64 x.e1]
def CB.av (x:CB):AV:=.agg x.C
attribute [go_sem] CB.C CB.av
theorem CB.flatC (x:CB):Bo (.agg x.C):=.agg _ (flC (.atom _) (flC (.atom _) (flN)))
theorem CB.flat (x:CB):Bo x.av:=x.flatC
theorem CB.len (x:CB):x.av.cells.length=2:=rfl
@[go_sem] theorem ARd [Mu]:muT Tryz.prog 22=Bk 3:=by unfold muT;rw[show Bn Tryz.prog 22=some 3 by kernel_rfl]
@[go_sem] theorem ARH [Mu]:muT Tryz.prog 23=Bk 26:=by unfold muT;rw[show Bn Tryz.prog 23=some 26 by kernel_rfl]
@[go_sem] theorem ARM [Mu]:muT Tryz.prog 24=Bk 67:=by unfold muT;rw[show Bn Tryz.prog 24=some 67 by kernel_rfl]
@[go_sem] theorem AQ3 [Mu]:muT Tryz.prog 29=Bk 98:=by unfold muT;rw[show Bn Tryz.prog 29=some 98 by kernel_rfl]
@[go_sem] theorem ARC [Mu]:muT Tryz.prog 30=Bk 40:=by unfold muT;rw[show Bn Tryz.prog 30=some 40 by kernel_rfl]
@[go_sem] theorem ARj [Mu]:muT Tryz.prog 89=Bk 96:=by unfold muT;rw[show Bn Tryz.prog 89=some 96 by kernel_rfl]
@[go_sem] theorem AQ8 [Mu]:muT Tryz.prog 90=Bk 101:=by unfold muT;rw[show Bn Tryz.prog 90=some 101 by kernel_rfl]
@[go_sem] theorem AQe [Mu]:muT Tryz.prog 184=Bk 199:=by unfold muT;rw[show Bn Tryz.prog 184=some 199 by kernel_rfl]
@[go_sem] theorem AQT [Mu]:muT Tryz.prog 207=Bk 209:=by unfold muT;rw[show Bn Tryz.prog 207=some 209 by kernel_rfl]
@[go_sem] theorem AN0 (l off:Nat):Bq Tryz.prog .eql 54 (.ptr l off) (.atom (.pointer none))=some (.bool false):=AAE (e:=128) (by kernel_rfl)
@[go_sem] theorem ARe:Oo Tryz.prog 126=some (40,130):=by kernel_rfl
@[go_sem] theorem AQH:ON Tryz.prog 40=some (.int .u64):=by kernel_rfl
instance AR2:IS Tryz.prog 22 Int AV.i64 3 1 8:=⟨Yb,AA5,Zy,ZT,rfl,(fun _=>rfl)⟩
instance ARu:IS Tryz.prog 23 AA AA.av 26 5 72:=⟨AGm,AFo,AD3,ACz,rfl,AA.len⟩
instance ARx:IS Tryz.prog 24 AB AB.av 67 14 128:=⟨Yn,ZX,XB,Wd,rfl,AB.len⟩
instance ARp:IS Tryz.prog 29 AD AD.av 98 5 56:=⟨AF8,AFu,AEx,AEA,rfl,AD.len⟩
instance AR1:IS Tryz.prog 30 AC AV.w 40 1 8:=⟨AGB,AFh,AC2,AEX,rfl,(fun _=>rfl)⟩
instance ARs:IS Tryz.prog 89 AO AO.av 96 17 152:=⟨YN,Yg,Wo,Wx,rfl,AO.len⟩
instance ARy:IS Tryz.prog 90 AK AK.av 101 6 64:=⟨Zo,Wg,UM,Us,rfl,AK.len⟩
instance ARL:IS Tryz.prog 184 AR AR.av 199 10 80:=⟨ADQ,AEM,ACJ,ABS,rfl,AR.len⟩
instance ARX:IS Tryz.prog 207 CB CB.av 209 2 16:=⟨ADC,ADc,ABH,ABs,rfl,CB.len⟩
@[reducible] def Kg:Mu:=⟨fun t=>[67].contains t⟩
@[go_sem] theorem AL5:@Bk Kg 67=true:=by kernel_rfl
@[reducible] def Qc:Mu:=⟨fun t=>[101].contains t⟩
@[go_sem] theorem AJx:@Bk Qc 96=false:=by kernel_rfl
@[go_sem] theorem AJU:@Bk Qc 101=true:=by kernel_rfl
end
section
attribute [go_sem] List.set_cons_zero List.set_cons_succ List.getElem?_cons_zero List.getElem?_cons_succ
@[go_sem] theorem AGZ:Ez .nilFunc=some (.atom .nilFunc):=rfl
def AA.tour:AA→List AA
 | ⟨a,b,ks,c,d⟩=>tourL ks++[⟨a,b,ks,c,d⟩]
where tourL:List AA→List AA
 | []=>[]
 | x :: l=>x.tour++tourL l
theorem ADZ (l:List AA):AA.tour.tourL l=l.flatMap AA.tour:=by
 induction l with
 | nil=>simp only[AA.tour.tourL,List.flatMap_nil]
 | cons x l ih=>simp only[AA.tour.tourL,List.flatMap_cons,ih]
theorem Db (x:AA):x.tour=x.Kids.flatMap AA.tour++[x]:=by
 obtain⟨a,b,ks,c,d⟩:=x
 simp only[AA.tour,ADZ]
theorem AC1 (x:AA):∀ (hsm:∀ y∈x.tour,y.Kids.length<9223372036854775808) (b:Nat) (yv:AV) (xs:List AA) (I:Nat→Mem→Prop) (D:Mem→Prop) (lt ly:Nat),yv.strip=yv→b≤lt→b≤ly→(∀ i m m',I i m→Ext m m'→I i m')→(∀ m m',D m→Ext m m'→D m') →
  (∀ i x m1,xs[i]?=some x→I i m1→HL Tryz.prog yv [.agg x.C] m1 fun r m2=>DZ b m1 m2∧((r=.bool true∧I (i+1) m2)∨(r=.bool false∧D m2))) →
  ∀ (i:Nat) (m:Mem),I i m→m.boxes[lt]?=some (.cells [.func 100 [] [.ptr lt 0,.ptr ly 0]])→m.boxes[ly]?=some (.cells [yv])→(∃ rest,xs.drop i=x.tour++rest) →
  Ft Tryz.prog 100 [.agg x.C,.ptr lt 0,.ptr ly 0] m fun r m'=>DZ b m m'∧((r=.bool true∧I (i+x.tour.length) m')∨(r=.bool false∧D m')):=by
 induction x using AA.induct with
 | h x ih =>
  intro hsm b yv xs I D lt ly hy hbt hby hI hD hY i m h0 h1 h2 ⟨rest,hr⟩
  rw[Db] at hr hsm ⊢
  have hkl:x.Kids.length<9223372036854775808:=hsm (x) (by simp)
  obtain⟨B,R,μ⟩:=m
  dsimp only at h1 h2
  have hlt:=(List.getElem?_eq_some_iff.1 h1).1
  refine Ft.of_slim mix AEs AL0 (by rfl) ?_;simp -implicitDefEqProofs only[go_sem,Tryz.f100]
  refine Gy.induct mix AEs (by kernel_rfl) (fun n e m'=>∃ (j:Nat),e=[(1,.ptr lt 0),(2,.ptr ly 0),(3,.ptr B.length 0),(8,.slice .foreign (x.Kids.map AA.av)),(9,.i64 x.Kids.length),(10,.i64 j)]∧DZ b ⟨B++[.cells (x.C)],R,μ⟩ m'∧I (i+((x.Kids.take j).flatMap AA.tour).length) m'∧j≤x.Kids.length∧n=x.Kids.length - j) x.Kids.length ⟨0,rfl,DZ.refl _ _,hI _ _ _ h0 (Ext.mkB _ _ _ _),by omega,by omega⟩ (by simp -implicitDefEqProofs only[go_sem] <;> repeat' (first | rfl | apply And.intro)) ?_
  rintro n e m' ⟨j,rfl,hk,hi,hj,hn⟩ ih2
  obtain⟨B',R',μ'⟩:=m'
  have b1:=hk.1 lt _ hbt (If h1 _)
  have b2:=hk.1 ly _ hby (If h2 _)
  have b3:=hk.1 B.length (.cells (x.C)) (by omega) (by simp)
  dsimp only at b1 b2 b3
  simp -implicitDefEqProofs only[go_sem,Tryz.f100]
  refine Wn (fun hc=>?_) fun hc=>?_
  ·have hj':j<x.Kids.length:=by omega
   simp -implicitDefEqProofs only[go_sem,APS hj',If b1,If b2,If b3]
   have hsp:x.Kids.flatMap AA.tour=(x.Kids.take j).flatMap AA.tour++(x.Kids[j].tour++(x.Kids.drop (j+1)).flatMap AA.tour):=by
    conv=>lhs;rw[← List.take_append_drop j x.Kids,List.drop_eq_getElem_cons hj',List.flatMap_append,List.flatMap_cons]
   have hdr:xs.drop (i+((x.Kids.take j).flatMap AA.tour).length)=x.Kids[j].tour++((x.Kids.drop (j+1)).flatMap AA.tour++[x]++rest):=by
    rw[← List.drop_drop,hr,hsp]
    simp[List.append_assoc]
   refine(HL.func (first:=[]) (args:=[.agg x.Kids[j].C]) (cap:=[.ptr lt 0,.ptr ly 0]) (ih x.Kids[j] (List.getElem_mem hj') (fun y hy=>hsm y (List.mem_append_left _ (List.mem_flatMap.2 ⟨_,List.getElem_mem hj',hy⟩))) b yv xs I D lt ly hy hbt hby hI hD hY (i+((x.Kids.take j).flatMap AA.tour).length) _ (hI _ _ _ hi (Ext.mkB _ _ _ _)) (If b1 _) (If b2 _) ⟨_,hdr⟩)).mono ?_
   rintro r m2 ⟨hk2,hcase⟩
   refine⟨False.elim,?_⟩
   have hk3:=(hk.trans ((Ext.mkB B' [.cells x.Kids[j].C] R' μ').keepB b)).trans hk2
   rcases hcase with⟨rfl,hi2⟩|⟨rfl,hd2⟩
   ·simp -implicitDefEqProofs only[go_sem,ACY j (by omega)]
    refine ih2 (x.Kids.length - (j+1)) _ _ _ (by omega) ⟨j+1,rfl,hk3,?_,by omega,rfl⟩ (by simp -implicitDefEqProofs only[go_sem] <;> repeat' (first | rfl | apply And.intro))
    rw[List.take_succ_eq_append_getElem hj',List.flatMap_append,List.length_append,← Nat.add_assoc]
    simpa using hi2
   ·simp -implicitDefEqProofs only[go_sem]
    exact⟨((Ext.mkB B [.cells (x.C)] R μ).keepB b).trans hk3,.inr hd2⟩
  ·have hjj:j=x.Kids.length:=by omega
   subst hjj
   rw[List.take_length] at hi
   have hx:xs[i+(x.Kids.flatMap AA.tour).length]?=some (x):=by
    rw[← List.getElem?_drop,hr]
    simp[List.append_assoc]
   simp -implicitDefEqProofs only[go_sem,b1,b2,b3]
   have hy1:=hY _ _ _ hx hi
   refine hy1.mono ?_
   rintro r m2 ⟨hk2,hcase⟩
   refine⟨False.elim,?_⟩
   have hk3:=((Ext.mkB B [.cells (x.C)] R μ).keepB b).trans (hk.trans hk2)
   rcases hcase with⟨rfl,hi2⟩|⟨rfl,hd2⟩
   ·simp -implicitDefEqProofs only[go_sem]
    exact⟨hk3,by simpa [Nat.add_assoc] using hi2⟩
   ·simp -implicitDefEqProofs only[go_sem]
    exact⟨hk3,.inr hd2⟩
theorem ADb (x:AA) (hsm:∀ y∈x.tour,y.Kids.length<9223372036854775808) (l:Nat):NL Tryz.prog 99 [] [.ptr l 0] (fun m=>m.boxes[l]?=some (.cells x.C)) (x.tour.map fun y=>[.agg y.C]):=by
 intro b yv I D m hy hb hC hI hD h0 hIs hDs hY
 obtain⟨B,R,μ⟩:=m
 dsimp only at hb
 have hbl:=hC 0 _ h0
 dsimp only at hbl
 show Ft Tryz.prog 99 [yv,.ptr l 0] _ _
 have z:DE Tryz.prog 46=some [.atom .nilFunc]:=by kernel_rfl
 refine Ft.of_slim mix AMk ANf (by rfl) ?_;simp -implicitDefEqProofs only[go_sem,Tryz.f99]
 simp -implicitDefEqProofs only[go_sem,hy.1,hy.2.1,hy.2.2,If hbl,z]
 refine(HL.func (first:=[]) (args:=[.agg x.C]) (cap:=[.ptr (B.length+1) 0,.ptr B.length 0]) (AC1 x hsm b yv x.tour (fun i m1=>I i m1∧DZ b ⟨B,R,μ⟩ m1) D (B.length+1) B.length hy.1 (by omega) hb (fun i m m' h he=>⟨hI i m m' h.1 he,h.2.trans (he.keepB b)⟩) hD (fun i y m1 hx hi=>?_) 0 _ ⟨hI _ _ _ h0 (Ext.mkB _ _ _ _),(Ext.mkB _ _ _ _).keepB b⟩ (by simp) (by simp) ⟨[],by simp⟩)).mono ?_
 ·refine(hY i [.agg y.C] m1 (by simp[hx]) hi.2 hi.1).mono ?_
  rintro r m2 ⟨hk,h | h⟩
  ·exact⟨hk,.inl ⟨h.1,h.2,hi.2.trans hk⟩⟩
  ·exact⟨hk,.inr h⟩
 ·rintro r m2 ⟨hk,h⟩
  refine⟨False.elim,?_⟩
  simp -implicitDefEqProofs only[go_sem]
  refine⟨((Ext.mkB B _ R μ).keepB b).trans hk,?_⟩
  rcases h with⟨_,h,_⟩|⟨_,h⟩
  ·left;simpa using h
  ·exact .inr h
theorem AD8 (x:AA) (B:List Ck) (R:List (Option (Nat × List AV))) (μ:TypeId→Bool):Ft Tryz.prog 59 [.agg x.C] ⟨B,R,μ⟩ fun r m1=>r=.func 99 [] [.ptr B.length 0]∧m1=⟨B++[.cells x.C],R,μ⟩:=by
 refine Ft.of_slim mix ANF ANb (by rfl) ?_;simp -implicitDefEqProofs only[go_sem,Tryz.f59]
def HI (x:AA):Option (List AA):=if(x.tour.all fun y=>decide (y.Kids.length<9223372036854775808))=true then some x.tour else none
theorem HI.w:∀ (x:AA) (r:List AA),HI x=some r→FnI Tryz.prog 59 [.agg x.C] (r.map fun y=>[.agg y.C]):=by
 intro x r h m
 unfold HI at h
 split at h
 ·rename_i hs
  injection h with h
  subst h
  have hs:∀ y∈x.tour,y.Kids.length<9223372036854775808:=fun y hy=>of_decide_eq_true (List.all_eq_true.1 hs y hy)
  obtain⟨B,R,μ⟩:=m
  obtain⟨r,m',h1,rfl,rfl⟩:=AD8 x B R μ
  refine⟨_,_,_,_,[(B.length,.cells x.C)],h1,⟨⟨[.cells x.C],rfl⟩,⟨[],by simp⟩,rfl⟩,?_,?_,?_⟩
  ·intro q hq
   rcases List.mem_cons.1 hq with rfl | hq
   ·simp
   ·cases hq
  ·intro b yv I D m hy hb hC hI hD h0 hIs hDs hY
   exact ADb x hs B.length b yv I D m hy hb (fun i m h=>hC i m h (B.length,.cells x.C) (List.mem_cons_self)) hI hD h0 hIs hDs hY
  ·intro q hq
   rcases List.mem_cons.1 hq with rfl | hq
   ·exact Nat.le_refl _
   ·cases hq
 ·cases h
end
section
theorem AJy:okF Tryz.f91=true:=by kernel_rfl
def GJ (x:Int):Option (AC) :=
 if(decide (x<0))=true then
  some (0#64)
 else
  if(decide (x ≥ 64))=true then
   some (0#64)
  else
   some (1#64 <<< ((BitVec.ofInt 64 x)).toNat)
instance GJ.w:AH GJ (fun x r=>Fn Tryz.prog 91 [.i64 x] (.w r)):=⟨by
 intro x r h
 rw[GJ] at h
 try dsimp only
 refine Fn.of_lc mix AMg AJy (by rfl) (flC (.atom _) (flN)) (.atom _) ?_
 simp -implicitDefEqProofs only[go_sem,Tryz.f91]
 exact AN⟩
end
section
theorem AIU:okF Tryz.f120=true:=by kernel_rfl
def Dz (x:AC × Int):Option (Bool) :=
 GJ x.2>>=fun r1 =>
 some ((x.1&&&r1) != 0#64)
instance Dz.w:AH Dz (fun x r=>Fn Tryz.prog 120 [.w x.1,.i64 x.2] (.bool r)):=⟨by
 intro x r h
 rw[Dz] at h
 try dsimp only
 refine Fn.of_lc mix ALo AIU (by rfl) (flC (.atom _) (flC (.atom _) (flN))) (.atom _) ?_
 simp -implicitDefEqProofs only[go_sem,Tryz.f120]
 exact AN⟩
end
section
def Bf (s:AC):List Int:=((List.range 64).filter fun i=>s.getLsbD i).map fun (i:Nat)=>(i:Int)
theorem AAs (s:AC) (i:Nat) (h:i<64):Dz (s,(i:Int))=some (s.getLsbD i):=by
 have h1:decide ((i:Int)<0)=false:=by simp
 have h2:decide ((i:Int) ≥ 64)=false:=by simp;omega
 have h3:(BitVec.ofInt 64 (i:Int)).toNat=i:=by
  rw[BitVec.ofInt_natCast,BitVec.toNat_ofNat];omega
 have e:GJ (i:Int)=some (1#64 <<< i):=by
  unfold GJ
  rw[h1,h2,h3];rfl
 unfold Dz
 simp only[e,Option.bind_eq_bind,Option.bind_some]
 congr 1
 have h4:s&&&1#64 <<< i=if s.getLsbD i then BitVec.twoPow 64 i else 0#64:=by
  rw[← BitVec.and_twoPow];rfl
 rw[h4]
 split
 ·rename_i hb
  rw[hb]
  have h5:BitVec.twoPow 64 i≠0#64:=by
   intro e
   have:=congrArg (fun x=>x.getLsbD i) e
   simp[BitVec.getLsbD_twoPow,h] at this
  simp[h5]
 ·rename_i hb
  simp at hb
  simp[hb]
theorem AGC (s:AC) (j:Nat) (h:j<64) (hb:s.getLsbD j=true):(Bf s)[((List.range j).filter fun i=>s.getLsbD i).length]?=some (j:Int):=by
 have e:List.range 64=List.range j++(j :: (List.range' (j+1) (63 - j))):=by
  rw[List.range_eq_range',List.range_eq_range',← List.range'_succ,show 63 - j+1=64 - j by omega]
  have:=List.range'_append (s:=0) (m:=j) (n:=64 - j) (step:=1)
  simp at this
  rw[show j+(64 - j)=64 by omega] at this
  exact this.symm
 unfold Bf
 rw[e,List.filter_append,List.filter_cons_of_pos (by simpa using hb),List.map_append]
 rw[List.getElem?_append_right (by simp)]
 simp
theorem ZG (s:AC) (l:Nat):NL Tryz.prog 119 [] [.ptr l 0] (fun m=>m.boxes[l]?=some (.cells [.w s])) ((Bf s).map fun i=>[.i64 i]):=by
 intro b yv I D m hy hb hC hI hD h0 hIs hDs hY
 obtain⟨B,R,μ⟩:=m
 dsimp only at hb
 show Ft Tryz.prog 119 [yv,.ptr l 0] _ _
 have hlen:∀ j,j=64→((List.range j).filter fun i=>s.getLsbD i).length=((Bf s).map fun i=>[AV.i64 i]).length:=by
  rintro j rfl
  simp[Bf]
 refine Ft.of_slim mix AE9 ALu (by rfl) ?_;simp -implicitDefEqProofs only[go_sem,Tryz.f119]
 refine Gy.induct mix AE9 (by kernel_rfl) (fun n e m'=>∃ (j:Nat),e=[(0,yv),(1,.ptr l 0),(4,.i64 j)]∧DZ b ⟨B,R,μ⟩ m'∧I ((List.range j).filter fun i=>s.getLsbD i).length m'∧j≤64∧n=64 - j) 64 ⟨0,rfl,DZ.refl _ _,h0,by omega,by omega⟩ (by simp -implicitDefEqProofs only[go_sem] <;> repeat' (first | rfl | apply And.intro)) ?_
 rintro n e m' ⟨j,rfl,hk,hi,hj,hn⟩ ih2
 obtain⟨B',R',μ'⟩:=m'
 have b1:=hC _ _ hi
 dsimp only at b1
 simp -implicitDefEqProofs only[go_sem,Tryz.f119]
 refine Wn (fun hc=>?_) fun hc=>?_
 ·have hj':j<64:=by omega
  have hnx:∀ bb,s.getLsbD j=bb→((List.range (j+1)).filter fun i=>s.getLsbD i).length=((List.range j).filter fun i=>s.getLsbD i).length+(if bb=true then 1 else 0):=by
   intro bb h
   rw[List.range_succ,List.filter_append,List.length_append]
   cases bb <;> simp[h]
  simp -implicitDefEqProofs only[go_sem,b1]
  refine HL.fn (Dz.w.w (s,(j:Int)) _ (AAs s j hj')) ?_
  cases hbit:s.getLsbD j with
  | false =>
   simp -implicitDefEqProofs only[go_sem,ACY j (by omega)]
   refine ih2 (64 - (j+1)) _ _ _ (by omega) ⟨j+1,rfl,hk,?_,by omega,rfl⟩ (by simp -implicitDefEqProofs only[go_sem] <;> repeat' (first | rfl | apply And.intro))
   rw[hnx false hbit];exact hi
  | true =>
   simp -implicitDefEqProofs only[go_sem]
   have hx:((Bf s).map fun i=>[AV.i64 i])[((List.range j).filter fun i=>s.getLsbD i).length]?=some [.i64 j]:=by
    rw[List.getElem?_map,AGC s j hj' hbit];rfl
   refine(hY _ _ _ hx hk hi).mono ?_
   rintro r m2 ⟨hk2,hcase⟩
   refine⟨False.elim,?_⟩
   have hk3:=hk.trans hk2
   rcases hcase with⟨rfl,hi2⟩|⟨rfl,hd2⟩
   ·simp -implicitDefEqProofs only[go_sem,ACY j (by omega)]
    refine ih2 (64 - (j+1)) _ _ _ (by omega) ⟨j+1,rfl,hk3,?_,by omega,rfl⟩ (by simp -implicitDefEqProofs only[go_sem] <;> repeat' (first | rfl | apply And.intro))
    rw[hnx true hbit];exact hi2
   ·simp -implicitDefEqProofs only[go_sem]
    exact⟨hk3,.inr hd2⟩
 ·have hjj:j=64:=by omega
  rw[hlen j hjj] at hi
  simp -implicitDefEqProofs only[go_sem]
  exact⟨hk,.inl (by simpa using hi)⟩
theorem Zn (s:AC) (B:List Ck) (R:List (Option (Nat × List AV))) (μ:TypeId→Bool):Ft Tryz.prog 90 [.w s] ⟨B,R,μ⟩ fun r m1=>r=.func 119 [] [.ptr B.length 0]∧m1=⟨B++[.cells [.w s]],R,μ⟩:=by
 refine Ft.of_slim mix AMv AMr (by rfl) ?_;simp -implicitDefEqProofs only[go_sem,Tryz.f90]
def HQ (s:AC):Option (List Int):=some (Bf s)
theorem HQ.w:∀ (x:AC) (r:List Int),HQ x=some r→FnI Tryz.prog 90 [.w x] (r.map fun y=>[.i64 y]):=by
 intro s r h m
 injection h with h
 subst h
 obtain⟨B,R,μ⟩:=m
 obtain⟨r,m',h1,rfl,rfl⟩:=Zn s B R μ
 refine⟨_,_,_,_,[(B.length,.cells [.w s])],h1,⟨⟨[.cells [.w s]],rfl⟩,⟨[],by simp⟩,rfl⟩,?_,?_,?_⟩
 ·intro q hq
  rcases List.mem_cons.1 hq with rfl | hq
  ·simp
  ·cases hq
 ·intro b yv I D m hy hb hC hI hD h0 hIs hDs hY
  exact ZG s B.length b yv I D m hy hb (fun i m h=>hC i m h (B.length,.cells [.w s]) (List.mem_cons_self)) hI hD h0 hIs hDs hY
 ·intro q hq
  rcases List.mem_cons.1 hq with rfl | hq
  ·exact Nat.le_refl _
  ·cases hq
end
section
theorem AKN:okF Tryz.f54=true:=by kernel_rfl
def Cl.l0 (x:AC × List Int × Int × Int):Option (AC) :=
 if(decide (x.2.2.2<x.2.2.1))=true then
  (AX x.2.1 x.2.2.2)>>=fun (e2:Int) =>
  GJ e2>>=fun r4 =>
  Cl.l0 ((x.1|||r4),x.2.1,x.2.2.1,(w64 (x.2.2.2+1)))
 else
  some x.1
 partial_fixpoint
theorem Cl.l0.ws:PC Cl.l0 (fun x o=>∀ lo c (Q:EP) (hb:∀ s:AC,o=s→Q (.exit 0) ⟨[(3,.v (.w s))],[]⟩),AJ Tryz.prog 54 lo c 0 (VQ Q) ⟨[(3,.v (.w x.1)),(6,.v (.slice .foreign (x.2.1.map AV.i64))),(7,.v (.i64 x.2.2.1)),(8,.v (.i64 x.2.2.2))],[]⟩):=by
 refine Cl.l0.partial_correctness _ ?_
 ·intro VT UB x o h
  have AID:AH VT _:=⟨UB⟩
  intro lo c Q hb
  refine AJ.step mix AHU (by kernel_rfl) ?_
  simp -implicitDefEqProofs only[go_sem,Tryz.f54]
  exact AN
instance Cl.l0.w:type_of% (AH.mk Cl.l0.ws):=⟨Cl.l0.ws⟩
def Cl (x:List Int):Option (AC) :=
 Cl.l0 (0#64,x,(x.length:Int),0)>>=fun (o6:AC) =>
 some o6
instance Cl.w:AH Cl (fun x r=>Fn Tryz.prog 54 [.slice .foreign (x.map AV.i64)] (.w r)):=⟨by
 intro x r h
 rw[Cl] at h
 try dsimp only
 refine Fn.of_lc mix AHU AKN (by rfl) (flC (AQ _ (fun _=>.atom _) _) (flN)) (.atom _) ?_
 simp -implicitDefEqProofs only[go_sem,Tryz.f54]
 exact AN⟩
end
section
theorem ALZ:okF Tryz.f53=true:=by kernel_rfl
def CT.r0 (x:List Int × List Int):Option (List Int) :=
 match x.1 with
 | []=>some x.2
 | e3 :: l4 =>
  (room 8 x.2 ([e3]))>>=fun (z5:List Int) =>
  CT.r0 (l4,z5)
 partial_fixpoint
theorem CT.r0.ws:PC CT.r0 (fun x o=>∀ (Fin:Exit→List (Nat × List CV)→Prop) (hb:∀ (s:List Int),o=s→Fin .normal [(2100003,[.own 32000300 1 (s.map AV.i64)])]),HM Tryz.prog 53 Tryz.f53 0 1 #[7] [(3,.lref 2100003 0)] Fin (x.1.map (fun (y:Int)=>[.i64 y])) [(2100003,[.own 32000300 1 (x.2.map AV.i64)])]):=by
 refine CT.r0.partial_correctness _ ?_
 ·intro AFe Ri x o h
  intro Fin hb
  generalize hx1:x.1=ys at h ⊢
  cases ys with
  | nil=>injection h with h;subst h;exact HM.nil (hb _ rfl)
  | cons e3 l4 =>
   refine HM.cons rfl fun l0 c1 hlo1=>?_
   dsimp only at h
   simp -implicitDefEqProofs only[go_sem,Tryz.f53]
   refine Qd.mk (by rfl) fun c2 hlo2=>?_
   simp -implicitDefEqProofs only[go_sem,Tryz.f53]
   obtain⟨z5,h6,h⟩:=AE h;replace h6:=Jq h6;obtain⟨h6',rfl⟩:=h6
   refine Gk.map (F:=AV.i64) (xs:=x.2) (ys:=[e3]) Yb AA5 Zy ZT rfl (fun _=>rfl) AL AL h6' ?_
   try simp -implicitDefEqProofs only[go_sem]
   exact LN.next [(32000300,some 11)] (by rfl) AL (by rfl) (Ri (l4,(x.2++[e3])) _ h Fin hb)
instance CT.r0.w:type_of% (AH.mk CT.r0.ws):=⟨CT.r0.ws⟩
def CT (x:AC):Option (List Int) :=
 HQ x>>=fun l1 =>
 CT.r0 (l1,([]:List Int))>>=fun (s9:List Int) =>
 some s9
instance CT.w:AH CT (fun x r=>Fn Tryz.prog 53 [.w x] (.slice .foreign (r.map AV.i64))):=⟨by
 intro x r h
 rw[CT] at h
 try dsimp only
 refine Fn.of_lc mix AHM ALZ (by rfl) (flC (.atom _) (flN)) (AQ _ (fun _=>.atom _) _) ?_
 simp -implicitDefEqProofs only[go_sem,Tryz.f53]
 obtain⟨l1,h2,h⟩:=AE h
 refine .iter _ _ rfl (HQ.w x _ h2) ?_
 try simp -implicitDefEqProofs only[go_sem]
 obtain⟨s9,h8,h⟩:=AE h
 refine Ku.iter mix AHM (LO.none _) (by kernel_rfl) (by kernel_rfl) (by rfl) rfl [(32000300,none)] [(2100003,3)] (by rfl) (by rfl) AL AL (CT.r0.w.w (l1,([]:List Int)) _ h8 _ ?_)
 intro s0 hs';subst hs'
 try simp -implicitDefEqProofs only[go_sem]
 injection h with h;subst h
 first | rfl | simp -implicitDefEqProofs only[go_sem] <;> rfl⟩
end
section
theorem AKC:okF Tryz.f66=true:=by kernel_rfl
def Br.l0 (x:Int × AC × Int):Option (AC) :=
 if(decide (x.2.2<x.1))=true then
  Br.l0 (x.1,(x.2.1 * 2#64),(w64 (x.2.2+1)))
 else
  some x.2.1
 partial_fixpoint
theorem Br.l0.ws:PC Br.l0 (fun x o=>∀ lo c (Q:EP) (hb:∀ s:AC,o=s→Q (.exit 0) ⟨[(3,.v (.w s))],[]⟩),AJ Tryz.prog 66 lo c 0 (VQ Q) ⟨[(0,.v (.i64 x.1)),(3,.v (.w x.2.1)),(4,.v (.i64 x.2.2))],[]⟩):=by
 refine Br.l0.partial_correctness _ ?_
 ·intro Pi Pb x o h
  have ADR:AH Pi _:=⟨Pb⟩
  intro lo c Q hb
  refine AJ.step mix AHL (by kernel_rfl) ?_
  simp -implicitDefEqProofs only[go_sem,Tryz.f66]
  exact AN
instance Br.l0.w:type_of% (AH.mk Br.l0.ws):=⟨Br.l0.ws⟩
def Br (x:Int):Option (AC) :=
 Br.l0 (x,1#64,0)>>=fun (o2:AC) =>
 some o2
instance Br.w:AH Br (fun x r=>Fn Tryz.prog 66 [.i64 x] (.w r)):=⟨by
 intro x r h
 rw[Br] at h
 try dsimp only
 refine Fn.of_lc mix AHL AKC (by rfl) (flC (.atom _) (flN)) (.atom _) ?_
 simp -implicitDefEqProofs only[go_sem,Tryz.f66]
 exact AN⟩
end
section
theorem ALI:okF Tryz.f65=true:=by kernel_rfl
def BO.l1 (x:List Int × AC × Int × Int):Option (AC) :=
 if(decide (x.2.2.2<(x.1.length:Int)))=true then
  (AX x.1 x.2.2.2)>>=fun (e3:Int) =>
  if(e3 == x.2.2.1)=true then
   Br x.2.2.1>>=fun r6 =>
   some (x.2.1+r6)
  else
   BO.l1 (x.1,x.2.1,x.2.2.1,(w64 (x.2.2.2+1)))
 else
  some x.2.1
 partial_fixpoint
theorem BO.l1.ws:PC BO.l1 (fun x o=>∀ lo c (Q:EP) (hb:∀ s:AC,o=s→Q (.exit 2) ⟨[(0,.v (.slice .foreign (x.1.map AV.i64))),(3,.v (.w s)),(4,.v (.i64 x.2.2.1))],[]⟩),AJ Tryz.prog 65 lo c 1 (VQ Q) ⟨[(0,.v (.slice .foreign (x.1.map AV.i64))),(3,.v (.w x.2.1)),(4,.v (.i64 x.2.2.1)),(5,.v (.i64 x.2.2.2))],[]⟩):=by
 refine BO.l1.partial_correctness _ ?_
 ·intro UY TS x o h
  have AHe:AH UY _:=⟨TS⟩
  intro lo c Q hb
  refine AJ.step mix ABQ (by kernel_rfl) ?_
  simp -implicitDefEqProofs only[go_sem,Tryz.f65]
  exact AN
instance BO.l1.w:type_of% (AH.mk BO.l1.ws):=⟨BO.l1.ws⟩
def BO.l0 (x:List Int × AC × Int):Option (AC) :=
 if(decide (x.2.2<64))=true then
  BO.l1 (x.1,x.2.1,x.2.2,0)>>=fun (o8:AC) =>
  BO.l0 (x.1,o8,(w64 (x.2.2+1)))
 else
  some x.2.1
 partial_fixpoint
theorem BO.l0.ws:PC BO.l0 (fun x o=>∀ lo c (Q:EP) (hb:∀ s:AC,o=s→Q (.exit 0) ⟨[(3,.v (.w s))],[]⟩),AJ Tryz.prog 65 lo c 0 (VQ Q) ⟨[(0,.v (.slice .foreign (x.1.map AV.i64))),(3,.v (.w x.2.1)),(4,.v (.i64 x.2.2))],[]⟩):=by
 refine BO.l0.partial_correctness _ ?_
 ·intro Tk TW x o h
  have AHH:AH Tk _:=⟨TW⟩
  intro lo c Q hb
  refine AJ.step mix ABQ (by kernel_rfl) ?_
  simp -implicitDefEqProofs only[go_sem,Tryz.f65]
  exact AN
instance BO.l0.w:type_of% (AH.mk BO.l0.ws):=⟨BO.l0.ws⟩
def BO (x:List Int):Option (AC) :=
 BO.l0 (x,0#64,0)>>=fun (o10:AC) =>
 some o10
instance BO.w:AH BO (fun x r=>Fn Tryz.prog 65 [.slice .foreign (x.map AV.i64)] (.w r)):=⟨by
 intro x r h
 rw[BO] at h
 try dsimp only
 refine Fn.of_lc mix ABQ ALI (by rfl) (flC (AQ _ (fun _=>.atom _) _) (flN)) (.atom _) ?_
 simp -implicitDefEqProofs only[go_sem,Tryz.f65]
 exact AN⟩
end
section
theorem AKu:okF Tryz.f67=true:=by kernel_rfl
def CZ (x:AC × Int):Option (Bool) :=
 if(decide (x.2 ≥ 0))=true then
  if(decide (x.2<64))=true then
   Br x.2>>=fun r3 =>
   if r3=0#64 then none else
   some (((x.1 / r3) % 2#64) == 1#64)
  else
   some false
 else
  some false
instance CZ.w:AH CZ (fun x r=>Fn Tryz.prog 67 [.w x.1,.i64 x.2] (.bool r)):=⟨by
 intro x r h
 rw[CZ] at h
 try dsimp only
 refine Fn.of_lc mix AM2 AKu (by rfl) (flC (.atom _) (flC (.atom _) (flN))) (.atom _) ?_
 simp -implicitDefEqProofs only[go_sem,Tryz.f67]
 exact AN⟩
end
section
theorem AK7:okF Tryz.f84=true:=by kernel_rfl
def CH.l0 (x:AC × AC × Int):Option (Lp (Unit) (Bool)) :=
 if(decide (x.2.2<64))=true then
  CZ (x.1,x.2.2)>>=fun r2 =>
  if r2=true then
   CZ (x.2.1,x.2.2)>>=fun r5 =>
   if r5=true then
    CH.l0 (x.1,x.2.1,(w64 (x.2.2+1)))
   else
    some (.ret false)
  else
   CH.l0 (x.1,x.2.1,(w64 (x.2.2+1)))
 else
  some (.brk ())
 partial_fixpoint
theorem CH.l0.ws:PC CH.l0 (fun x o=>∀ lo c (Q:EP) (hb:∀ s:Unit,o=Lp.brk s→Q (.exit 0) ⟨[],[]⟩) (hr:∀ (r:Bool) (L:AM),o=.ret r→DO Tryz.prog [.tmp 4] (.bool r) (fun _=>True) .ret L→Q .ret L),AJ Tryz.prog 84 lo c 0 (VQ Q) ⟨[(0,.v (.w x.1)),(1,.v (.w x.2.1)),(5,.v (.i64 x.2.2))],[]⟩):=by
 refine CH.l0.partial_correctness _ ?_
 ·intro UF Sk x o h
  have AHS:AH UF _:=⟨Sk⟩
  intro lo c Q hb hr
  refine AJ.step mix AHT (by kernel_rfl) ?_
  simp -implicitDefEqProofs only[go_sem,Tryz.f84]
  exact AN
instance CH.l0.w:type_of% (AH.mk CH.l0.ws):=⟨CH.l0.ws⟩
def CH (x:AC × AC):Option (Bool) :=
 CH.l0 (x.1,x.2,0)>>=fun (o8:Lp (Unit) (Bool))=>match o8 with
 | .brk s11 =>
  some true
 | .ret r10 =>
  some r10
instance CH.w:AH CH (fun x r=>Fn Tryz.prog 84 [.w x.1,.w x.2] (.bool r)):=⟨by
 intro x r h
 rw[CH] at h
 try dsimp only
 refine Fn.of_lc mix AHT AK7 (by rfl) (flC (.atom _) (flC (.atom _) (flN))) (.atom _) ?_
 simp -implicitDefEqProofs only[go_sem,Tryz.f84]
 exact AN⟩
end
section
theorem ALm:okF Tryz.f64=true:=by kernel_rfl
def BL.l0 (x:AC × List Int × Int):Option (List Int) :=
 if(decide (x.2.2<64))=true then
  CZ (x.1,x.2.2)>>=fun r2 =>
  if r2=true then
   (room 8 x.2.1 ([x.2.2]))>>=fun (z5:List Int) =>
   BL.l0 (x.1,z5,(w64 (x.2.2+1)))
  else
   BL.l0 (x.1,x.2.1,(w64 (x.2.2+1)))
 else
  some x.2.1
 partial_fixpoint
theorem BL.l0.ws:PC BL.l0 (fun x o=>∀ lo c (Q:EP) (hb:∀ s:List Int,o=s→Q (.exit 0) ⟨[(3,.own 100300 1 (s.map AV.i64))],[]⟩),AJ Tryz.prog 64 lo c 0 (VQ Q) ⟨[(0,.v (.w x.1)),(3,.own 100300 1 (x.2.1.map AV.i64)),(4,.v (.i64 x.2.2))],[]⟩):=by
 refine BL.l0.partial_correctness _ ?_
 ·intro Ry QF x o h
  have AFU:AH Ry _:=⟨QF⟩
  intro lo c Q hb
  refine AJ.step mix AHK (by kernel_rfl) ?_
  simp -implicitDefEqProofs only[go_sem,Tryz.f64]
  exact AN
instance BL.l0.w:type_of% (AH.mk BL.l0.ws):=⟨BL.l0.ws⟩
def BL (x:AC):Option (List Int) :=
 BL.l0 (x,([]:List Int),0)>>=fun (o7:List Int) =>
 some o7
instance BL.w:AH BL (fun x r=>Fn Tryz.prog 64 [.w x] (.slice .foreign (r.map AV.i64))):=⟨by
 intro x r h
 rw[BL] at h
 try dsimp only
 refine Fn.of_lc mix AHK ALm (by rfl) (flC (.atom _) (flN)) (AQ _ (fun _=>.atom _) _) ?_
 simp -implicitDefEqProofs only[go_sem,Tryz.f64]
 exact AN⟩
end
section
theorem Ge {x:Int} (h1:-9223372036854775808≤x) (h2:x<9223372036854775808):w64 x=x:=by
 simp only[w64,IntKind.wrap,IntKind.bits,IntKind.signed,Bool.true_and,decide_eq_true_eq,Nat.reduceSub,Int.reducePow,ge_iff_le]
 split <;> omega
theorem AU {i:Nat} (h:i+1<9223372036854775808):w64 ((i:Int)+1)=((i+1:Nat):Int):=by
 rw[Ge (by omega) (by omega)];omega
theorem Ag {α:Type} {l:List α} {i:Nat} (h:i<l.length):AX l (i:Int)=some l[i]:=by
 unfold AX
 rw[if_pos (by omega),Int.toNat_natCast,List.getElem?_eq_getElem h]
theorem Bp {α:Type} {b:Nat} {xs ys:List α} (h:(xs.length+ys.length) * b≤140737488355328):room b xs ys=some (xs++ys):=if_pos h
theorem Fy {α σ ρ:Type} (l:List α) (I:Nat→σ→Prop) (F:Nat→σ→ρ) (G:σ→List α→ρ) (h0:∀ s,I l.length s→F l.length s=G s [])
  (hs:∀ i s (h:i<l.length),I i s→(∀ s',I (i+1) s'→F (i+1) s'=G s' (l.drop (i+1)))→F i s=G s (l[i] :: l.drop (i+1))):∀ i s,i≤l.length→I i s→F i s=G s (l.drop i):=by
 have key:∀ n i s,l.length - i=n→i≤l.length→I i s→F i s=G s (l.drop i):=by
  intro n
  induction n with
  | zero =>
   intro i s h1 h2 hi
   obtain rfl:i=l.length:=by omega
   rw[List.drop_length];exact h0 s hi
  | succ n ih =>
   intro i s h1 h2 hi
   have hlt:i<l.length:=by omega
   rw[List.drop_eq_getElem_cons hlt]
   exact hs i s hlt hi (fun s' hi'=>ih (i+1) s' (by omega) (by omega) hi')
 intro i s h hi
 exact key _ i s rfl h hi
theorem Ic {α σ ρ:Type} (l:List α) (F:Nat→σ→ρ) (G:σ→List α→ρ) (h0:∀ s,F l.length s=G s [])
  (hs:∀ i s (h:i<l.length),(∀ s',F (i+1) s'=G s' (l.drop (i+1)))→F i s=G s (l[i] :: l.drop (i+1))) (s:σ):F 0 s=G s l:=by
 have:=Fy l (fun _ _=>True) F G (fun s _=>h0 s) (fun i s h _ ih=>hs i s h (fun s'=>ih s' trivial)) 0 s (Nat.zero_le _) trivial
 rwa [List.drop_zero] at this
theorem dlt {a b:Int} (h:a<b):(decide (a<b))=true:=decide_eq_true h
theorem dge {a b:Int} (h:¬ a<b):¬ (decide (a<b))=true:=by simpa using h
def Cw (n:Int):AC:=if 0≤n∧n<64 then 1#64 <<< n.toNat else 0#64
def AY (s:AC) (n:Int):Bool:=decide (0≤n∧n<64)&&s.getLsbD n.toNat
def ofL (l:List Int):AC:=l.foldl (fun s n=>s|||Cw n) 0#64
theorem Sh (n:Int) (i:Nat):(Cw n).getLsbD i=(decide (i<64)&&decide (n=(i:Int))):=by
 unfold Cw
 split
 ·rename_i h
  obtain⟨k,rfl⟩:∃ k:Nat,n=k:=⟨n.toNat,by omega⟩
  rw[Int.toNat_natCast]
  have:(1#64 <<< k)=BitVec.twoPow 64 k:=rfl
  rw[this,BitVec.getLsbD_twoPow]
  rw[Bool.eq_iff_iff]
  simp only[Bool.and_eq_true,decide_eq_true_eq]
  omega
 ·rename_i h
  rw[BitVec.getLsbD_zero]
  by_cases h1:i<64
  ·have:n≠(i:Int):=by omega
   simp[this]
  ·simp[h1]
theorem SW (n:Int):GJ n=some (Cw n):=by
 unfold GJ Cw
 by_cases h1:n<0
 ·rw[if_pos (by simpa using h1),if_neg (by omega)]
 ·rw[if_neg (by simpa using h1)]
  by_cases h2:n ≥ 64
  ·rw[if_pos (by simpa using h2),if_neg (by omega)]
  ·rw[if_neg (by simpa using h2),if_pos (by omega)]
   congr 2
   rw[BitVec.toNat_ofInt];omega
theorem AAZ (s:AC) (n:Int):Dz (s,n)=some (AY s n):=by
 unfold AY
 by_cases h:0≤n∧n<64
 ·obtain⟨k,rfl⟩:∃ k:Nat,n=k:=⟨n.toNat,by omega⟩
  rw[AAs s k (by omega)]
  simp;omega
 ·unfold Dz
  rw[SW]
  simp only[Option.bind_eq_bind,Option.bind_some,Cw,if_neg h,h,decide_false,Bool.false_and]
  simp
theorem AGt (l:List Int) (s:AC):l.foldl (fun s n=>s|||Cw n) s=s|||ofL l:=by
 unfold ofL
 have:∀ (l:List Int) (s:AC),l.foldl (fun s n=>s|||Cw n) s=s|||l.foldl (fun s n=>s|||Cw n) 0#64:=by
  intro l
  induction l with
  | nil=>intro s;simp
  | cons x l ih =>
   intro s
   simp only[List.foldl_cons]
   rw[ih (s|||Cw x),ih (0#64|||Cw x),BitVec.zero_or,BitVec.or_assoc]
 exact this l s
theorem Gd (x:Int) (l:List Int):ofL (x :: l)=Cw x|||ofL l:=by
 unfold ofL
 simp only[List.foldl_cons]
 rw[AGt,BitVec.zero_or];rfl
theorem Hy:ofL []=0#64:=rfl
theorem Oe (l l':List Int):ofL (l++l')=ofL l|||ofL l':=by
 induction l with
 | nil=>rw[List.nil_append,Hy,BitVec.zero_or]
 | cons x l ih=>rw[List.cons_append,Gd,Gd,ih,BitVec.or_assoc]
theorem Qz (l:List Int) (i:Nat) (h:i<64):(ofL l).getLsbD i=l.any fun n=>decide (n=(i:Int)):=by
 induction l with
 | nil=>simp[Hy]
 | cons x l ih=>rw[Gd,BitVec.getLsbD_or,ih,Sh,List.any_cons];simp[h]
theorem Ul (l:List Int) (hl:l.length<9223372036854775808):Cl l=some (ofL l):=by
 have key:=Ic l (fun i (s:AC)=>Cl.l0 (s,l,(l.length:Int),(i:Int))) (fun s l=>some (l.foldl (fun s n=>s|||Cw n) s)) (fun s=>by
   show Cl.l0 _=_
   rw[Cl.l0,if_neg (dge (by dsimp only;omega))];rfl)
  (fun i s h ih=>by
   show Cl.l0 _=_
   rw[Cl.l0,if_pos (dlt (by dsimp only;omega))]
   dsimp only
   rw[Ag h]
   simp only[Option.bind_eq_bind,Option.bind_some,SW]
   rw[AU (by omega)]
   exact ih (s|||Cw l[i])) 0#64
 unfold Cl
 have key':Cl.l0 (0#64,l,(l.length:Int),0)=some (ofL l):=key
 rw[key'];rfl
theorem MN (n:Nat) (h:n<64):Br (n:Int)=some (BitVec.twoPow 64 n):=by
 have key:∀ k i,n - i=k→i≤n→Br.l0 ((n:Int),BitVec.twoPow 64 i,(i:Int))=some (BitVec.twoPow 64 n):=by
  intro k
  induction k with
  | zero =>
   intro i h1 h2
   obtain rfl:i=n:=by omega
   rw[Br.l0,if_neg (dge (by dsimp only;omega))]
  | succ k ih =>
   intro i h1 h2
   rw[Br.l0,if_pos (dlt (by dsimp only;omega))]
   dsimp only
   rw[AU (by omega)]
   have:BitVec.twoPow 64 i * 2#64=BitVec.twoPow 64 (i+1):=by
    apply BitVec.eq_of_toNat_eq
    rw[BitVec.toNat_mul,BitVec.toNat_twoPow,BitVec.toNat_twoPow]
    simp only[BitVec.toNat_ofNat]
    rw[Nat.pow_succ]
    omega
   rw[this]
   exact ih (i+1) (by omega) (by omega)
 unfold Br
 have:=key n 0 (by omega) (by omega)
 rw[show BitVec.twoPow 64 0=1#64 from rfl] at this
 rw[show ((0:Nat):Int)=0 from rfl] at this
 rw[this];rfl
theorem Eb (s:AC) (n:Int):CZ (s,n)=some (AY s n):=by
 unfold CZ AY
 dsimp only
 by_cases h1:n ≥ 0
 ·rw[if_pos (by simpa using h1)]
  by_cases h2:n<64
  ·rw[if_pos (by simpa using h2)]
   obtain⟨k,rfl⟩:∃ k:Nat,n=k:=⟨n.toNat,by omega⟩
   rw[MN k (by omega)]
   simp only[Option.bind_eq_bind,Option.bind_some,Int.toNat_natCast]
   have hk:k<64:=by omega
   have h0:BitVec.twoPow 64 k≠0#64:=by
    intro e
    have:=congrArg (fun x=>x.getLsbD k) e
    simp[BitVec.getLsbD_twoPow,hk] at this
   rw[if_neg h0]
   congr 1
   have h3:(0≤(k:Int)∧(k:Int)<64):=by omega
   simp only[h3,decide_true,Bool.true_and]
   rw[Bool.eq_iff_iff,beq_iff_eq,← BitVec.toNat_inj,BitVec.toNat_umod,BitVec.toNat_udiv,BitVec.toNat_twoPow]
   have e:(2 ^ k % 2 ^ 64)=2 ^ k:=Nat.mod_eq_of_lt (Nat.pow_lt_pow_right (by omega) hk)
   rw[e]
   simp only[BitVec.toNat_ofNat]
   show s.toNat / 2 ^ k % 2=1 ↔ s.toNat.testBit k=true
   rw[Nat.testBit_eq_decide_div_mod_eq]
   simp
  ·rw[if_neg (by simpa using h2)]
   simp only[h2,and_false,decide_false,Bool.false_and]
 ·rw[if_neg (by simpa using h1)]
  have:¬ (0≤n∧n<64):=by omega
  simp only[this,decide_false,Bool.false_and]
theorem DK (s:AC) (k:Nat) (h:k<64):AY s (k:Int)=s.getLsbD k:=by
 unfold AY
 have:(0≤(k:Int)∧(k:Int)<64):=by omega
 rw[decide_eq_true this,Bool.true_and,Int.toNat_natCast]
def NT (f:Nat→Bool):Nat→AC
 | 0=>0#64
 | i+1=>if f i=true then NT f i+BitVec.twoPow 64 i else NT f i
theorem AF0 (f:Nat→Bool):∀ (n:Nat),n≤64→∀ j,(NT f n).getLsbD j=(decide (j<n)&&f j):=by
 intro n
 induction n with
 | zero=>intro _ j;simp[NT]
 | succ n ih =>
  intro hn j
  have ih:=ih (by omega)
  simp only[NT]
  split
  ·rename_i hf
   have h0:NT f n&&&BitVec.twoPow 64 n=0#64:=by
    apply BitVec.eq_of_getLsbD_eq
    intro k hk
    rw[BitVec.getLsbD_and,ih,BitVec.getLsbD_twoPow,BitVec.getLsbD_zero]
    by_cases e:n=k
    ·subst e;simp
    ·simp[e]
   rw[BitVec.add_eq_or_of_and_eq_zero _ _ h0,BitVec.getLsbD_or,ih,BitVec.getLsbD_twoPow]
   rw[Bool.eq_iff_iff]
   simp only[Bool.or_eq_true,Bool.and_eq_true,decide_eq_true_eq]
   constructor
   ·rintro (⟨h1,h2⟩|⟨h1,h2⟩)
    ·exact⟨by omega,h2⟩
    ·exact⟨by omega,h2 ▸ hf⟩
   ·rintro⟨h1,h2⟩
    by_cases e:j=n
    ·exact .inr ⟨by omega,e.symm⟩
    ·exact .inl ⟨by omega,h2⟩
  ·rename_i hf
   rw[ih]
   rw[Bool.eq_iff_iff]
   simp only[Bool.and_eq_true,decide_eq_true_eq]
   constructor
   ·rintro⟨h1,h2⟩;exact⟨by omega,h2⟩
   ·rintro⟨h1,h2⟩
    refine⟨?_,h2⟩
    rcases Nat.lt_or_ge j n with h3 | h3
    ·exact h3
    ·obtain rfl:j=n:=by omega
     exact absurd h2 hf
theorem JJ (l:List Int) (hl:l.length<9223372036854775808):BO l=some (ofL l):=by
 have inner:∀ (i:Nat),i<64→∀ s,BO.l1 (l,s,(i:Int),0)=some (if(l.any fun n=>decide (n=(i:Int)))=true then s+BitVec.twoPow 64 i else s):=by
  intro i hi s
  exact Ic l (fun k (s:AC)=>BO.l1 (l,s,(i:Int),(k:Int))) (fun s l=>some (if(l.any fun n=>decide (n=(i:Int)))=true then s+BitVec.twoPow 64 i else s)) (fun s=>by
   show BO.l1 _=_
   rw[BO.l1,if_neg (dge (by dsimp only;omega))];simp)
   (fun k s h ih=>by
   show BO.l1 _=_
   rw[BO.l1,if_pos (dlt (by dsimp only;omega))]
   dsimp only
   rw[Ag h]
   simp only[Option.bind_eq_bind,Option.bind_some]
   by_cases e:l[k]=(i:Int)
   ·rw[if_pos (by simpa using e),MN i hi]
    simp[e]
   ·rw[if_neg (by simpa using e),AU (by omega)]
    rw[ih s,List.any_cons,decide_eq_false e,Bool.false_or]) s
 have outer:∀ k i,64 - i=k→i≤64→BO.l0 (l,NT (fun j=>l.any fun n=>decide (n=(j:Int))) i,(i:Int))=some (NT (fun j=>l.any fun n=>decide (n=(j:Int))) 64):=by
  intro k
  induction k with
  | zero =>
   intro i h1 h2
   obtain rfl:i=64:=by omega
   rw[BO.l0,if_neg (dge (by dsimp only;omega))]
  | succ k ih =>
   intro i h1 h2
   rw[BO.l0,if_pos (dlt (by dsimp only;omega))]
   dsimp only
   rw[inner i (by omega)]
   simp only[Option.bind_eq_bind,Option.bind_some]
   rw[AU (by omega)]
   have:=ih (i+1) (by omega) (by omega)
   simp only[NT] at this
   exact this
 unfold BO
 have h:=outer 64 0 (by omega) (by omega)
 rw[show ((0:Nat):Int)=0 from rfl,show NT (fun j=>l.any fun n=>decide (n=(j:Int))) 0=0#64 from rfl] at h
 rw[h]
 simp only[Option.bind_eq_bind,Option.bind_some]
 congr 1
 apply BitVec.eq_of_getLsbD_eq
 intro j hj
 rw[AF0 _ 64 (by omega),Qz l j hj]
 simp[hj]
def inS (a b:AC):Bool:=(a&&&~~~b) == 0#64
theorem Jl (a b:AC):inS a b=true ↔ ∀ j,j<64→a.getLsbD j=true→b.getLsbD j=true:=by
 unfold inS
 rw[beq_iff_eq]
 constructor
 ·intro h j hj ha
  have:=congrArg (fun x=>x.getLsbD j) h
  simp only[BitVec.getLsbD_and,BitVec.getLsbD_not,hj,decide_true,Bool.true_and,BitVec.getLsbD_zero,ha] at this
  simpa using this
 ·intro h
  apply BitVec.eq_of_getLsbD_eq
  intro j hj
  simp only[BitVec.getLsbD_and,BitVec.getLsbD_not,hj,decide_true,Bool.true_and,BitVec.getLsbD_zero]
  cases ha:a.getLsbD j with
  | false=>simp
  | true=>rw[h j hj ha];simp
theorem JI (a b:AC):CH (a,b)=some (inS a b):=by
 have key:∀ (k i:Nat),64 - i=k→i≤64→CH.l0 (a,b,(i:Int))=some (if(∀ j:Nat,j<64→i≤j→a.getLsbD j=true→b.getLsbD j=true) then .brk () else .ret false):=by
  intro k
  induction k with
  | zero =>
   intro i h1 h2
   obtain rfl:i=64:=by omega
   rw[CH.l0,if_neg (dge (by dsimp only;omega)),if_pos (fun j h3 h4=>by omega)]
  | succ k ih =>
   intro i h1 h2
   have hi:i<64:=by omega
   rw[CH.l0,if_pos (dlt (by dsimp only;omega))]
   dsimp only
   rw[Eb,Eb,DK _ _ hi,DK _ _ hi,AU (by omega)]
   simp only[Option.bind_eq_bind,Option.bind_some]
   rw[ih (i+1) (by omega) (by omega)]
   have split:(∀ j,j<64→i≤j→a.getLsbD j=true→b.getLsbD j=true) ↔ (a.getLsbD i=true→b.getLsbD i=true)∧∀ j,j<64→i+1≤j→a.getLsbD j=true→b.getLsbD j=true:=by
    constructor
    ·intro h;exact⟨h i hi (Nat.le_refl _),fun j h3 h4=>h j h3 (by omega)⟩
    ·rintro⟨h,h'⟩ j h3 h4 h5
     by_cases e:j=i
     ·subst e;exact h h5
     ·exact h' j h3 (by omega) h5
   cases ha:a.getLsbD i with
   | false =>
    rw[if_neg (by simp)]
    congr 1
    simp only[split,ha]
    simp
   | true =>
    rw[if_pos rfl]
    cases hb:b.getLsbD i with
    | false =>
     rw[if_neg (by simp),if_neg (by rw[split,ha,hb];simp)]
    | true =>
     rw[if_pos rfl]
     congr 1
     simp only[split,ha,hb]
     simp
 unfold CH
 have h:=key 64 0 (by omega) (by omega)
 rw[show ((0:Nat):Int)=0 from rfl] at h
 dsimp only
 rw[h]
 by_cases hi:inS a b=true
 ·rw[if_pos (fun j h1 _ h2=>(Jl a b).1 hi j h1 h2),hi];rfl
 ·rw[if_neg (fun hh=>hi ((Jl a b).2 fun j h1 h2=>hh j h1 (Nat.zero_le _) h2))]
  simp only[Bool.not_eq_true] at hi
  rw[hi];rfl
end
section
theorem AJd:okF Tryz.f21=true:=by kernel_rfl
def Da (x:AC):Option (Int) :=
 BL x>>=fun r1 =>
 some (r1.length:Int)
instance Da.w:AH Da (fun x r=>Fn Tryz.prog 21 [.w x] (.i64 r)):=⟨by
 intro x r h
 rw[Da] at h
 try dsimp only
 refine Fn.of_lc mix ANU AJd (by rfl) (flC (.atom _) (flN)) (.atom _) ?_
 simp -implicitDefEqProofs only[go_sem,Tryz.f21]
 exact AN⟩
end
section
theorem AKD:okF Tryz.f25=true:=by kernel_rfl
def BB.l1 (x:List Int × List AC × Int × AC × Int):Option (AC) :=
 if(decide (x.2.2.2.2<(x.1.length:Int)))=true then
  CZ ((BitVec.ofInt 64 x.2.2.1),x.2.2.2.2)>>=fun r7 =>
  if r7=true then
   (AX x.1 x.2.2.2.2)>>=fun (e10:Int) =>
   Br e10>>=fun r12 =>
   BB.l1 (x.1,x.2.1,x.2.2.1,(x.2.2.2.1+r12),(w64 (x.2.2.2.2+1)))
  else
   BB.l1 (x.1,x.2.1,x.2.2.1,x.2.2.2.1,(w64 (x.2.2.2.2+1)))
 else
  some x.2.2.2.1
 partial_fixpoint
theorem BB.l1.ws:PC BB.l1 (fun x o=>∀ lo c (Q:EP) (hb:∀ s:AC,o=s→Q (.exit 2) ⟨[(3,.v (.slice .foreign (x.1.map AV.i64))),(4,.own 100400 1 (x.2.1.map AV.w)),(5,.v (.i64 x.2.2.1)),(6,.v (.w s))],[]⟩),AJ Tryz.prog 25 lo c 1 (VQ Q) ⟨[(3,.v (.slice .foreign (x.1.map AV.i64))),(4,.own 100400 1 (x.2.1.map AV.w)),(5,.v (.i64 x.2.2.1)),(6,.v (.w x.2.2.2.1)),(7,.v (.i64 x.2.2.2.2))],[]⟩):=by
 refine BB.l1.partial_correctness _ ?_
 ·intro Pm PQ x o h
  have ADX:AH Pm _:=⟨PQ⟩
  intro lo c Q hb
  refine AJ.step mix ABf (by kernel_rfl) ?_
  simp -implicitDefEqProofs only[go_sem,Tryz.f25]
  exact AN
instance BB.l1.w:type_of% (AH.mk BB.l1.ws):=⟨BB.l1.ws⟩
def BB.l0 (x:List Int × List AC × Int):Option (List AC) :=
 Br (x.1.length:Int)>>=fun r3 =>
 if(decide (x.2.2<(w64 (r3.toNat:Int))))=true then
  BB.l1 (x.1,x.2.1,x.2.2,0#64,0)>>=fun (o14:AC) =>
  (room 8 x.2.1 ([o14]))>>=fun (z16:List AC) =>
  BB.l0 (x.1,z16,(w64 (x.2.2+1)))
 else
  some x.2.1
 partial_fixpoint
theorem BB.l0.ws:PC BB.l0 (fun x o=>∀ lo c (Q:EP) (hb:∀ s:List AC,o=s→Q (.exit 0) ⟨[(4,.own 100400 1 (s.map AV.w))],[]⟩),AJ Tryz.prog 25 lo c 0 (VQ Q) ⟨[(3,.v (.slice .foreign (x.1.map AV.i64))),(4,.own 100400 1 (x.2.1.map AV.w)),(5,.v (.i64 x.2.2))],[]⟩):=by
 refine BB.l0.partial_correctness _ ?_
 ·intro QX PP x o h
  have ADS:AH QX _:=⟨PP⟩
  intro lo c Q hb
  refine AJ.step mix ABf (by kernel_rfl) ?_
  simp -implicitDefEqProofs only[go_sem,Tryz.f25]
  exact AN
instance BB.l0.w:type_of% (AH.mk BB.l0.ws):=⟨BB.l0.ws⟩
def BB (x:AC):Option (List AC) :=
 BL x>>=fun r1 =>
 BB.l0 (r1,([]:List AC),1)>>=fun (o18:List AC) =>
 some o18
instance BB.w:AH BB (fun x r=>Fn Tryz.prog 25 [.w x] (.slice .foreign (r.map AV.w))):=⟨by
 intro x r h
 rw[BB] at h
 try dsimp only
 refine Fn.of_lc mix ABf AKD (by rfl) (flC (.atom _) (flN)) (AQ _ (fun _=>.atom _) _) ?_
 simp -implicitDefEqProofs only[go_sem,Tryz.f25]
 exact AN⟩
end
section
theorem LL (s:AC):BL s=some (Bf s):=by
 unfold BL
 have key:=Fy (List.range 64) (fun i (acc:List Int)=>acc.length≤i) (fun i acc=>BL.l0 (s,acc,(i:Int))) (fun acc l=>some (acc++(l.filter fun j=>s.getLsbD j).map fun (j:Nat)=>(j:Int)))
  (fun acc _=>by
   show BL.l0 _=_
   rw[BL.l0,if_neg (by simp)]
   simp)
  (fun i acc h hacc ih=>by
   have hi:i<64:=by simpa using h
   show BL.l0 _=_
   rw[BL.l0,if_pos (by simp;omega)]
   dsimp only
   rw[Eb,DK _ _ hi,AU (by omega),List.getElem_range]
   simp -implicitDefEqProofs only[Option.bind_eq_bind,Option.bind_some]
   by_cases hb:s.getLsbD i=true
   ·rw[if_pos hb,Bp (by simp only[List.length_cons,List.length_nil];omega)]
    simp -implicitDefEqProofs only[Option.bind_some]
    have:=ih (acc++[(i:Int)]) (by rw[List.length_append];simp only[List.length_cons,List.length_nil];omega)
    rw[this,List.filter_cons_of_pos hb,List.map_cons,List.append_assoc];rfl
   ·rw[if_neg hb]
    have:=ih acc (by omega)
    rw[this,List.filter_cons_of_neg hb]) 0 [] (by simp) (by simp)
 have key':BL.l0 (s,[],0)=_:=key
 rw[key']
 simp -implicitDefEqProofs only[Option.bind_eq_bind,Option.bind_some]
 rw[List.drop_zero,List.nil_append];rfl
theorem Jc (s:AC):Da s=some ((Bf s).length:Int):=by
 unfold Da
 rw[LL];rfl
theorem IG (s:AC) (n:Int):n∈Bf s ↔ AY s n=true:=by
 unfold Bf AY
 rw[List.mem_map]
 constructor
 ·rintro⟨k,hk,rfl⟩
  rw[List.mem_filter,List.mem_range] at hk
  simp[hk.1,hk.2]
  omega
 ·intro h
  rw[Bool.and_eq_true,decide_eq_true_eq] at h
  exact⟨n.toNat,List.mem_filter.2 ⟨List.mem_range.2 (by omega),h.2⟩,by omega⟩
theorem Kj (s:AC):(Bf s).Pairwise (· < ·):=by
 unfold Bf
 rw[List.pairwise_map]
 exact(List.pairwise_lt_range.sublist List.filter_sublist).imp fun h=>by omega
theorem AAp (s:AC):(Bf s).length≤64:=by
 unfold Bf
 rw[List.length_map];exact Nat.le_trans (List.length_filter_le _ _) (by simp)
theorem Tl {s:AC} {n:Int} (h:AY s n=true):0≤n∧n<64:=by
 unfold AY at h
 rw[Bool.and_eq_true,decide_eq_true_eq] at h
 exact h.1
theorem Jm {a b:AC} (h:∀ n,AY a n=AY b n):a=b:=by
 apply BitVec.eq_of_getLsbD_eq
 intro i hi
 rw[← DK a i hi,← DK b i hi,h]
theorem IM (a b:AC) (n:Int):AY (a|||b) n=(AY a n || AY b n):=by
 unfold AY
 rw[BitVec.getLsbD_or]
 cases decide (0≤n∧n<64) <;> rfl
theorem Mo (a b:AC) (n:Int):AY (a&&&b) n=(AY a n&&AY b n):=by
 unfold AY
 rw[BitVec.getLsbD_and]
 cases decide (0≤n∧n<64) <;> cases a.getLsbD n.toNat <;> rfl
theorem Je (a b:AC) (n:Int):AY (a&&&~~~b) n=(AY a n&&!AY b n):=by
 unfold AY
 rw[BitVec.getLsbD_and,BitVec.getLsbD_not]
 by_cases h:0≤n∧n<64
 ·have h2:n.toNat<64:=by omega
  simp[h,h2]
 ·simp[h]
theorem HA (n:Int):AY 0#64 n=false:=by simp[AY]
theorem Ib (e n:Int):AY (Cw e) n=(decide (0≤n∧n<64)&&decide (e=n)):=by
 unfold AY
 rw[Sh]
 by_cases h:0≤n∧n<64
 ·have h2:n.toNat<64:=by omega
  have h3:(n.toNat:Int)=n:=by omega
  simp[h,h2,h3]
 ·simp[h]
theorem DB (a b:AC):inS a b=true ↔ ∀ n,AY a n=true→AY b n=true:=by
 rw[Jl]
 constructor
 ·intro h n hn
  obtain⟨h1,h2⟩:=Tl hn
  have e:n=(n.toNat:Int):=by omega
  rw[e,DK _ _ (by omega)] at hn ⊢
  exact h _ (by omega) hn
 ·intro h j hj hb
  have:=h (j:Int) (by rw[DK _ _ hj];exact hb)
  rwa [DK _ _ hj] at this
theorem HH (a:AC):a=0#64 ↔ ∀ n,AY a n=false:=by
 constructor
 ·rintro rfl n;exact HA n
 ·intro h;exact Jm fun n=>by rw[h n,HA]
def Ep (l:List Int):List AC:=l.foldl (fun acc e=>acc++acc.map (· ||| Cw e)) [0#64]
theorem KI (l:List Int) (e:Int):Ep (l++[e])=Ep l++(Ep l).map (· ||| Cw e):=by
 unfold Ep;rw[List.foldl_append];rfl
theorem Of {α:Type} {M:List α→Prop} (h0:M []) (h1:∀ l e,M l→M (l++[e])) (l:List α):M l:=by
 have:∀ n (l:List α),l.length=n→M l:=by
  intro n
  induction n with
  | zero=>intro l h;rw[List.length_eq_zero_iff.1 h];exact h0
  | succ n ih =>
   intro l h
   have hne:l≠[]:=by rintro rfl;cases h
   rw[← List.dropLast_concat_getLast hne]
   exact h1 _ _ (ih _ (by rw[List.length_dropLast];omega))
 exact this _ l rfl
theorem Pf (l:List Int):(Ep l).length=2 ^ l.length:=by
 induction l using Of with
 | h0=>rfl
 | h1 l e ih=>rw[KI,List.length_append,List.length_map,List.length_append,ih];simp[Nat.pow_succ];omega
theorem Mt (l:List Int) (hl:∀ e∈l,0≤e∧e<64) (x:AC):x∈Ep l ↔ ∀ n,AY x n=true→n∈l:=by
 induction l using Of generalizing x with
 | h0 =>
  constructor
  ·intro h n hn
   rw[show Ep []=[0#64] from rfl,List.mem_singleton] at h
   subst h;rw[HA] at hn;cases hn
  ·intro h
   rw[show Ep []=[0#64] from rfl,List.mem_singleton]
   exact(HH x).2 fun n=>by
    cases hx:AY x n with
    | false=>rfl
    | true=>cases h n hx
 | h1 l e ih =>
  have hl':∀ e∈l,0≤e∧e<64:=fun e he=>hl e (List.mem_append_left _ he)
  have he:=hl e (by simp)
  rw[KI,List.mem_append,List.mem_map,ih hl']
  constructor
  ·rintro (h | ⟨y,hy,rfl⟩) n hn
   ·exact List.mem_append_left _ (h n hn)
   ·rw[IM,Bool.or_eq_true] at hn
    rcases hn with hn | hn
    ·exact List.mem_append_left _ ((ih hl' y).1 hy n hn)
    ·rw[Ib,Bool.and_eq_true,decide_eq_true_eq,decide_eq_true_eq] at hn
     rw[← hn.2];simp
  ·intro h
   by_cases hxe:AY x e=true
   ·right
    by_cases hel:e∈l
    ·refine⟨x,(ih hl' x).2 fun n hn=>?_,Jm fun n=>?_⟩
     ·rcases List.mem_append.1 (h n hn) with h1 | h1
      ·exact h1
      ·rw[List.mem_singleton.1 h1];exact hel
     ·rw[IM,Ib]
      by_cases hn:e=n
      ·subst hn;simp[hxe]
      ·simp[hn]
    ·refine⟨x&&&~~~Cw e,(ih hl' _).2 fun n hn=>?_,Jm fun n=>?_⟩
     ·rw[Je,Bool.and_eq_true,Ib] at hn
      rcases List.mem_append.1 (h n hn.1) with h1 | h1
      ·exact h1
      ·have h2:=List.mem_singleton.1 h1;subst h2
       simp[he] at hn
     ·rw[IM,Je,Ib]
      by_cases hn:e=n
      ·subst hn;simp[hxe,he]
      ·simp[hn]
   ·left
    intro n hn
    rcases List.mem_append.1 (h n hn) with h1 | h1
    ·exact h1
    ·rw[List.mem_singleton.1 h1] at hn;exact absurd hn hxe
def BS (s:AC):List AC:=(Ep (Bf s)).tail
theorem ZY {e:Int} (h:0≤e∧e<64):(Cw e).toNat=2 ^ e.toNat:=by
 unfold Cw
 rw[if_pos h,BitVec.toNat_shiftLeft]
 have:2 ^ e.toNat<2 ^ 64:=Nat.pow_lt_pow_right (by omega) (by omega)
 simp[Nat.shiftLeft_eq]
 omega
theorem ADV {x:AC} {e:Int} (h:0≤e∧e<64) (hx:AY x e=false):x|||Cw e=x+Cw e:=by
 refine(BitVec.add_eq_or_of_and_eq_zero _ _ ?_).symm
 refine(HH _).2 fun n=>?_
 rw[Mo,Ib]
 by_cases hn:e=n
 ·subst hn;simp[hx]
 ·simp[hn]
theorem ABG {x:AC} {k:Nat} (hk:k≤64) (h:∀ n,AY x n=true→n<(k:Int)):x.toNat<2 ^ k:=by
 apply Nat.lt_of_not_le
 intro hle
 have hxl:=x.isLt
 by_cases h64:k=64
 ·subst h64;omega
 obtain⟨i,hi,hb⟩:=Nat.exists_ge_and_testBit_of_ge_two_pow hle
 have h1:i<64:=by
  apply Nat.lt_of_not_le
  intro h2
  rw[Nat.testBit_lt_two_pow (Nat.lt_of_lt_of_le hxl (Nat.pow_le_pow_right (by omega) h2))] at hb
  cases hb
 have:=h (i:Int) (by rw[DK _ _ h1];exact hb)
 omega
theorem YG (l:List Int) (hl:∀ e∈l,0≤e∧e<64) (hs:l.Pairwise (· < ·)):(Ep l).Pairwise (fun a b=>a.toNat<b.toNat):=by
 induction l using Of with
 | h0=>exact List.pairwise_singleton _ _
 | h1 l e ih =>
  have hl':∀ e∈l,0≤e∧e<64:=fun e he=>hl e (List.mem_append_left _ he)
  have he:=hl e (by simp)
  obtain⟨hs1,_,hs2⟩:=List.pairwise_append.1 hs
  have hlow:∀ x∈Ep l,x.toNat<2 ^ e.toNat:=fun x hx=>ABG (by omega) fun n hn=>by
   have:=hs2 n ((Mt l hl' x).1 hx n hn) e (by simp)
   omega
  have hno:∀ x∈Ep l,AY x e=false:=fun x hx=>by
   cases hxe:AY x e with
   | false=>rfl
   | true=>have:=hs2 e ((Mt l hl' x).1 hx e hxe) e (by simp);omega
  have hpow:2 ^ e.toNat<2 ^ 63+1:=by have:=Nat.pow_le_pow_right (show 0<2 by omega) (show e.toNat≤63 by omega);omega
  have hval:∀ x∈Ep l,(x|||Cw e).toNat=x.toNat+2 ^ e.toNat:=fun x hx=>by
   rw[ADV he (hno x hx),BitVec.toNat_add,ZY he]
   have:=hlow x hx
   omega
  rw[KI]
  refine List.pairwise_append.2 ⟨ih hl' hs1,?_,fun a ha b hb=>?_⟩
  ·rw[List.pairwise_map]
   exact(ih hl' hs1).imp_of_mem fun {a b} ha hb h=>by rw[hval a ha,hval b hb];omega
  ·obtain⟨y,hy,rfl⟩:=List.mem_map.1 hb
   rw[hval y hy]
   have:=hlow a ha
   omega
theorem GI (s:AC):∀ e∈Bf s,0≤e∧e<64:=fun e he=>Tl ((IG s e).1 he)
theorem Nt (l:List Int):∃ t,Ep l=0#64 :: t:=by
 induction l using Of with
 | h0=>exact⟨[],rfl⟩
 | h1 l e ih=>obtain⟨t,ht⟩:=ih;rw[KI,ht];exact⟨_,rfl⟩
theorem CY (s x:AC):x∈BS s ↔ x≠0#64∧inS x s=true:=by
 have h1:=Mt (Bf s) (GI s) x
 have h2:=YG (Bf s) (GI s) (Kj s)
 obtain⟨t,ht⟩:=Nt (Bf s)
 unfold BS
 rw[ht] at h1 h2 ⊢
 rw[List.tail_cons]
 rw[DB]
 have e:(∀ n,AY x n=true→n∈Bf s) ↔ ∀ n,AY x n=true→AY s n=true:=⟨fun h n hn=>(IG s n).1 (h n hn),fun h n hn=>(IG s n).2 (h n hn)⟩
 rw[← e,← h1,List.mem_cons]
 constructor
 ·intro hx
  refine⟨?_,.inr hx⟩
  rintro rfl
  have:=(List.pairwise_cons.1 h2).1 _ hx
  omega
 ·rintro⟨h3,h4 | h4⟩
  ·exact absurd h4 h3
  ·exact h4
theorem LF (s:AC):(BS s).Pairwise (fun a b=>a.toNat<b.toNat):=by
 have h2:=YG (Bf s) (GI s) (Kj s)
 obtain⟨t,ht⟩:=Nt (Bf s)
 unfold BS
 rw[ht] at h2 ⊢
 exact(List.pairwise_cons.1 h2).2
theorem KK (s:AC):(BS s).length=2 ^ (Bf s).length - 1:=by
 unfold BS
 rw[List.length_tail,Pf]
theorem ABp (l:List Int) (hl:∀ e∈l,0≤e∧e<64) (hs:l.Pairwise (· < ·)) (k:Nat) (hk:k<l.length) (n:Nat) (p:AC) (hp:(Ep (l.take k))[n % 2 ^ k]?=some p) :
  (Ep (l.take (k+1)))[n % 2 ^ (k+1)]?=some (if n.testBit k=true then p+BitVec.twoPow 64 l[k].toNat else p)∧AY p l[k]=false:=by
 have hlk:(l.take k).length=k:=by rw[List.length_take];omega
 have hlen:(Ep (l.take k)).length=2 ^ k:=by rw[Pf,hlk]
 have hpm:p∈Ep (l.take k):=List.mem_of_getElem? hp
 have hno:AY p l[k]=false:=by
  cases h:AY p l[k] with
  | false=>rfl
  | true =>
   have h1:=(Mt (l.take k) (fun e he=>hl e (List.mem_of_mem_take he)) p).1 hpm _ h
   rw[List.mem_take_iff_getElem] at h1
   obtain⟨i,hi,he⟩:=h1
   have:=List.pairwise_iff_getElem.1 hs i k (by omega) hk (by omega)
   omega
 refine⟨?_,hno⟩
 have hr:=hl _ (List.getElem_mem hk)
 rw[List.take_succ_eq_append_getElem hk,KI]
 have hmod:n % 2 ^ (k+1)=n % 2 ^ k+(if n.testBit k=true then 2 ^ k else 0):=by
  rw[Nat.mod_pow_succ,Nat.testBit_eq_decide_div_mod_eq]
  have:n / 2 ^ k % 2<2:=Nat.mod_lt _ (by omega)
  by_cases h:n / 2 ^ k % 2=1
  ·simp[h]
  ·have h0:n / 2 ^ k % 2=0:=by omega
   simp[h0]
 have hlt:n % 2 ^ k<2 ^ k:=Nat.mod_lt _ (Nat.two_pow_pos k)
 rw[hmod]
 by_cases hb:n.testBit k=true
 ·rw[if_pos hb,if_pos hb,List.getElem?_append_right (by omega),List.getElem?_map,hlen,Nat.add_sub_cancel,hp,Option.map_some,ADV hr hno]
  congr 2
  apply BitVec.eq_of_toNat_eq
  rw[ZY hr,BitVec.toNat_twoPow]
  have:2 ^ l[k].toNat<2 ^ 64:=Nat.pow_lt_pow_right (by omega) (by omega)
  exact(Nat.mod_eq_of_lt this).symm
 ·rw[if_neg hb,if_neg hb,Nat.add_zero,List.getElem?_append_left (by omega)];exact hp
theorem AC7 (e:Int) (h:0≤e∧e<64):Br e=some (BitVec.twoPow 64 e.toNat):=by
 have:=MN e.toNat (by omega)
 rwa [Int.toNat_of_nonneg h.1] at this
theorem Ng (s:AC) (hc:(Bf s).length≤20):BB s=some (BS s):=by
 have hl:=GI s
 have hs:=Kj s
 generalize hm:Bf s=l at hl hs hc
 have hpw:2 ^ l.length≤2 ^ 20:=Nat.pow_le_pow_right (by omega) hc
 have l1:∀ (out:List AC) (n:Nat),n<2 ^ l.length→∀ d k p,l.length - k=d→k≤l.length→(Ep (l.take k))[n % 2 ^ k]?=some p→∃ q,BB.l1 (l,out,(n:Int),p,(k:Int))=some q∧(Ep l)[n]?=some q:=by
  intro out n hn d
  induction d with
  | zero =>
   intro k p h1 h2 h3
   have hk:k=l.length:=by omega
   subst hk
   rw[BB.l1,if_neg (dge (by dsimp only;omega))]
   refine⟨p,rfl,?_⟩
   rw[List.take_length,Nat.mod_eq_of_lt hn] at h3;exact h3
  | succ d ih =>
   intro k p h1 h2 h3
   have hk:k<l.length:=by omega
   obtain⟨h4,h5⟩:=ABp l hl hs k hk n p h3
   rw[BB.l1,if_pos (dlt (by dsimp only;omega))]
   dsimp only
   have hbit:AY (BitVec.ofInt 64 (n:Int)) (k:Int)=n.testBit k:=by
    rw[DK _ _ (by omega),BitVec.ofInt_natCast,BitVec.getLsbD_ofNat]
    simp;omega
   rw[Eb,hbit,AU (by omega)]
   simp -implicitDefEqProofs only[Option.bind_eq_bind,Option.bind_some]
   by_cases hb:n.testBit k=true
   ·rw[if_pos hb,Ag hk]
    simp -implicitDefEqProofs only[Option.bind_some]
    rw[AC7 _ (hl _ (List.getElem_mem hk))]
    simp -implicitDefEqProofs only[Option.bind_some]
    rw[if_pos hb] at h4
    exact ih (k+1) _ (by omega) (by omega) h4
   ·rw[if_neg hb]
    rw[if_neg hb] at h4
    exact ih (k+1) _ (by omega) (by omega) h4
 have hlen:=Pf l
 obtain⟨t,ht⟩:=Nt l
 have l0:∀ d n (out:List AC),2 ^ l.length - n=d→1≤n→n≤2 ^ l.length→out=(Ep l).tail.take (n - 1)→BB.l0 (l,out,(n:Int))=some (Ep l).tail:=by
  intro d
  induction d with
  | zero =>
   intro n out h1 h2 h3 h4
   rw[BB.l0]
   dsimp only
   rw[MN _ (by omega)]
   simp -implicitDefEqProofs only[Option.bind_eq_bind,Option.bind_some]
   have hpt:(BitVec.twoPow 64 l.length).toNat=2 ^ l.length:=by
    rw[BitVec.toNat_twoPow];omega
   rw[hpt,Ge (by omega) (by omega),if_neg (dge (by omega))]
   rw[h4,List.take_of_length_le (by rw[List.length_tail,hlen];omega)]
  | succ d ih =>
   intro n out h1 h2 h3 h4
   rw[BB.l0]
   dsimp only
   rw[MN _ (by omega)]
   simp -implicitDefEqProofs only[Option.bind_eq_bind,Option.bind_some]
   have hpt:(BitVec.twoPow 64 l.length).toNat=2 ^ l.length:=by
    rw[BitVec.toNat_twoPow];omega
   rw[hpt,Ge (by omega) (by omega),if_pos (dlt (by omega))]
   obtain⟨q,hq,hq2⟩:=l1 out n (by omega) l.length 0 0#64 (by omega) (by omega) (by simp[Ep,Nat.mod_one])
   rw[show ((0:Nat):Int)=0 from rfl] at hq
   rw[hq]
   simp -implicitDefEqProofs only[Option.bind_some]
   have hol:out.length≤n:=by rw[h4,List.length_take];omega
   rw[Bp (by simp only[List.length_cons,List.length_nil];omega),AU (by omega)]
   simp -implicitDefEqProofs only[Option.bind_some]
   refine ih (n+1) _ (by omega) (by omega) (by omega) ?_
   rw[h4]
   have hq3:(Ep l).tail[n - 1]?=some q:=by
    rw[List.getElem?_tail,show n - 1+1=n by omega];exact hq2
   rw[show n+1 - 1=(n - 1)+1 by omega,List.take_add_one,hq3];rfl
 unfold BB BS
 rw[LL,hm]
 simp -implicitDefEqProofs only[Option.bind_eq_bind,Option.bind_some]
 have:=l0 _ 1 [] rfl (by omega) (Nat.one_le_two_pow) (by simp)
 rw[show ((1:Nat):Int)=1 from rfl] at this
 rw[this];rfl
end
section
def FD (x:AC × AC):Option (List AC) :=
 if(x.2 == 0#64)=true then some [] else FD (x.1,(x.2 - x.1)&&&x.1)>>=fun l=>some (x.2 :: l)
 partial_fixpoint
theorem Xi {s p:AC} (h:FD (s,p)=some []):p=0#64:=by
 rw[FD] at h
 split at h
 ·rename_i h1;simpa using h1
 ·obtain⟨l,_,h⟩:=AE h
  cases h
theorem VY {s p x:AC} {l:List AC} (h:FD (s,p)=some (x :: l)):p≠0#64∧x=p∧FD (s,(p - s)&&&s)=some l:=by
 rw[FD] at h
 split at h
 ·cases h
 ·rename_i h1
  obtain⟨l',h2,h⟩:=AE h
  injection h with h
  injection h with h3 h4
  subst h3 h4
  exact⟨fun e=>h1 (by simp[e]),rfl,h2⟩
def Ey (s:AC):Option (List AC):=FD (s,(-s)&&&s)
theorem VF (s:AC) {xs:List AC} (hxs:Ey s=some xs) (l:Nat):NL Tryz.prog 89 [] [.ptr l 0] (fun m=>m.boxes[l]?=some (.cells [.w s])) (xs.map fun p=>[.w p]):=by
 intro b yv I D m hy hb hC hI hD h0 hIs hDs hY
 obtain⟨B,R,μ⟩:=m
 dsimp only at hb
 have hbl:=hC 0 _ h0
 dsimp only at hbl
 show Ft Tryz.prog 89 [yv,.ptr l 0] _ _
 refine Ft.of_slim mix AHf ANI (by rfl) ?_;simp -implicitDefEqProofs only[go_sem,Tryz.f89]
 simp -implicitDefEqProofs only[go_sem,hbl]
 show ZD (Option.map _ (aun .neg (.w s))) _
 rw[AEQ]
 simp -implicitDefEqProofs only[go_sem,hbl]
 refine Gy.induct mix AHf (by kernel_rfl) (fun n e m'=>∃ (p:AC) (rest pre:List AC),e=[(0,yv),(1,.ptr l 0),(3,.w p)]∧DZ b ⟨B,R,μ⟩ m'∧FD (s,p)=some rest∧xs=pre++rest∧I pre.length m'∧n=rest.length) xs.length ⟨(-s)&&&s,xs,[],rfl,DZ.refl _ _,hxs,rfl,h0,rfl⟩ (by simp -implicitDefEqProofs only[go_sem] <;> repeat' (first | rfl | apply And.intro)) ?_
 rintro n e m' ⟨p,rest,pre,rfl,hk,hp,hx,hi,hn⟩ ih2
 obtain⟨B',R',μ'⟩:=m'
 have b1:=hC _ _ hi
 dsimp only at b1
 simp -implicitDefEqProofs only[go_sem,Tryz.f89]
 cases rest with
 | nil =>
  have e:=Xi hp
  subst e
  simp -implicitDefEqProofs only[go_sem]
  exact⟨hk,.inl (by rw[hx];simpa using hi)⟩
 | cons q rest =>
  obtain⟨hne,rfl,hp2⟩:=VY hp
  have hne':(q != 0#64)=true:=by simpa using hne
  simp -implicitDefEqProofs only[go_sem,hne']
  have hget:(xs.map fun p=>[AV.w p])[pre.length]?=some [.w q]:=by
   rw[List.getElem?_map,hx,List.getElem?_append_right (Nat.le_refl _)];simp
  refine(hY _ _ _ hget hk hi).mono ?_
  rintro r ⟨B2,R2,μ2⟩ ⟨hk2,hcase⟩
  refine⟨False.elim,?_⟩
  have hk3:=hk.trans hk2
  rcases hcase with⟨rfl,hi2⟩|⟨rfl,hd2⟩
  ·have b2:=hC _ _ hi2
   dsimp only at b2
   simp -implicitDefEqProofs only[go_sem,b2]
   refine ih2 rest.length _ _ _ (by simp at hn;omega) ⟨_,rest,pre++[q],rfl,hk3,hp2,by rw[hx];simp,by simpa using hi2,rfl⟩ (by simp -implicitDefEqProofs only[go_sem] <;> repeat' (first | rfl | apply And.intro))
  ·simp -implicitDefEqProofs only[go_sem]
   exact⟨hk3,.inr hd2⟩
theorem Tm (s:AC) (B:List Ck) (R:List (Option (Nat × List AV))) (μ:TypeId→Bool):Ft Tryz.prog 51 [.w s] ⟨B,R,μ⟩ fun r m1=>r=.func 89 [] [.ptr B.length 0]∧m1=⟨B++[.cells [.w s]],R,μ⟩:=by
 refine Ft.of_slim mix ANd ANX (by rfl) ?_;simp -implicitDefEqProofs only[go_sem,Tryz.f51]
theorem Ey.w:∀ (x:AC) (r:List AC),Ey x=some r→FnI Tryz.prog 51 [.w x] (r.map fun y=>[.w y]):=by
 intro s r h m
 obtain⟨B,R,μ⟩:=m
 obtain⟨r0,m',h1,rfl,rfl⟩:=Tm s B R μ
 refine⟨_,_,_,_,[(B.length,.cells [.w s])],h1,⟨⟨[.cells [.w s]],rfl⟩,⟨[],by simp⟩,rfl⟩,?_,?_,?_⟩
 ·intro q hq
  rcases List.mem_cons.1 hq with rfl | hq
  ·simp
  ·cases hq
 ·intro b yv I D m hy hb hC hI hD h0 hIs hDs hY
  exact VF s h B.length b yv I D m hy hb (fun i m h=>hC i m h (B.length,.cells [.w s]) (List.mem_cons_self)) hI hD h0 hIs hDs hY
 ·intro q hq
  rcases List.mem_cons.1 hq with rfl | hq
  ·exact Nat.le_refl _
  ·cases hq
def Lq (s:AC) (ps:List AC):List (AC × AC):=(ps.filter fun a=>decide (a≠s)).map fun a=>(a,s&&&~~~a)
def GP (s:AC):Option (List (AC × AC)):=Ey s>>=fun ps=>some (Lq s ps)
theorem OF {b k:Nat} {m m1:Mem} (c:Ck) (h:DZ b m m1) (hk:m.boxes.length≤k):DZ b m (m1.set k c):=⟨fun i x hi hx=>by
 have:=(List.getElem?_eq_some_iff.1 hx).1
 simp only[Mem.set];rw[List.getElem?_set_ne (by omega)];exact h.1 i x hi hx,by simpa [Mem.set] using h.2.1,by simpa [Mem.set] using h.2.2.1,h.2.2.2⟩
theorem AB2 (s:AC):∀ (pre rest:List AC) (p:AC),p≠s→(Lq s (pre++p :: rest))[(pre.filter fun a=>decide (a≠s)).length]?=some (p,s&&&~~~p):=by
 intro pre rest p h
 unfold Lq
 rw[List.getElem?_map,List.filter_append,List.getElem?_append_right (Nat.le_refl _),Nat.sub_self,List.filter_cons,if_pos (by simpa using h)]
 rfl
theorem AAB (s:AC) {ps:List AC} (hps:Ey s=some ps) (l:Nat):NL Tryz.prog 101 [] [.ptr l 0] (fun m=>m.boxes[l]?=some (.cells [.w s])) ((Lq s ps).map fun y=>[.w y.1,.w y.2]):=by
 intro b yv I D m hy hb hC hI hD h0 hIs hDs hY
 obtain⟨B,R,μ⟩:=m
 dsimp only at hb
 have hbl:=hC 0 _ h0
 dsimp only at hbl
 have hl:l<B.length:=(List.getElem?_eq_some_iff.1 hbl).1
 show Ft Tryz.prog 101 [yv,.ptr l 0] _ _
 refine Ft.of_slim mix AEu AJa (by rfl) ?_;simp -implicitDefEqProofs only[go_sem,Tryz.f101]
 simp -implicitDefEqProofs only[go_sem,hy.1,hy.2.1,hy.2.2,If hbl]
 refine(HL.func (first:=[]) (args:=[.w s]) (cap:=[]) (Tm s (B++[.cells [yv]]) R μ)).mono ?_
 rintro r m2 ⟨rfl,rfl⟩
 refine⟨False.elim,?_⟩
 simp -implicitDefEqProofs only[go_sem]
 obtain⟨m0,hm0⟩:∃ m0:Mem,m0=⟨B++[Ck.cells [yv],Ck.cells [.w s]],R,μ⟩:=⟨_,rfl⟩
 have hml:m0.boxes.length=B.length+2:=by rw[hm0];simp
 have ext0:Ext ⟨B,R,μ⟩ m0:=by rw[hm0];exact⟨⟨[Ck.cells [yv],Ck.cells [.w s]],rfl⟩,⟨[],by simp⟩,rfl⟩
 have hy0:m0.boxes[B.length]?=some (.cells [yv]):=by rw[hm0];simp
 have hp0:m0.boxes[B.length+1]?=some (.cells [.w s]):=by rw[hm0];simp
 have hpush:∀ c,Ext m0 (m0.push c):=fun c=>⟨⟨[c],rfl⟩,⟨[],by simp[Mem.push]⟩,rfl⟩
 rw[← hm0]
 refine Pz.iter mix AEu (e0:=[(2,.ptr B.length 0),(1,.ptr l 0)]) (by kernel_rfl) (by kernel_rfl) (by kernel_rfl) rfl (by simp -implicitDefEqProofs only[go_sem] <;> repeat' (first | rfl | apply And.intro)) trivial (VF s hps (B.length+1))
  (fun i m1=>∃ pre rest,ps=pre++rest∧pre.length=i∧I (pre.filter fun a=>decide (a≠s)).length m1∧DZ b m0 m1)
  (fun x m1=>x=.ret∧D m1∧DZ b m0 m1) ?_ ?_ ?_ ?_ ?_ ?_ ?_ ?_ ?_
 ·rintro i m1 m2 ⟨pre,rest,h1,h2,h3,h4⟩ he
  exact⟨pre,rest,h1,h2,hI _ _ _ h3 he,h4.trans (he.keepB b)⟩
 ·rintro x m1 m2 ⟨rfl,h3,h4⟩ he
  exact⟨rfl,hD _ _ h3 he,h4.trans (he.keepB b)⟩
 ·rintro i m1 k c hk ⟨pre,rest,h1,h2,h3,h4⟩
  exact⟨pre,rest,h1,h2,hIs _ _ _ _ (by dsimp only;omega) h3,OF c h4 hk⟩
 ·rintro x m1 k c hk ⟨rfl,h3,h4⟩
  exact⟨rfl,hDs _ _ _ (by dsimp only;omega) h3,OF c h4 hk⟩
 ·rintro i m1 ⟨pre,rest,h1,h2,h3,h4⟩
  exact h4.1 _ _ (by omega) hp0
 ·intro c
  exact⟨[],ps,rfl,rfl,hI _ _ _ h0 (ext0.trans (hpush c)),(hpush c).keepB b⟩
 ·rintro i x m1 c hx ⟨pre,rest,h1,h2,h3,h4⟩ hc hbox
  subst h2
  rw[h1,List.getElem?_map,List.getElem?_append_right (Nat.le_refl _),Nat.sub_self] at hx
  cases rest with
  | nil=>cases hx
  | cons p rest =>
   injection hx with hx
   subst hx
   refine⟨rfl,?_⟩
   have hlm:l<m0.boxes.length:=by omega
   simp -implicitDefEqProofs only[go_sem,Tryz.f101,Im]
   refine⟨DZ.refl _ _,hbox,fun c' hc'=>?_⟩
   have hLm:m0.boxes.length<m1.boxes.length:=(List.getElem?_eq_some_iff.1 hbox).1
   have i2:I (pre.filter fun a=>decide (a≠s)).length (m1.set m0.boxes.length c'):=hIs _ _ _ _ (by dsimp only;omega) h3
   have k2:DZ b m0 (m1.set m0.boxes.length c'):=OF c' h4 (Nat.le_refl _)
   have x2:(m1.set m0.boxes.length c').boxes[m0.boxes.length]?=some c':=by simp only[Mem.set];rw[List.getElem?_set_self hLm]
   generalize m1.set m0.boxes.length c'=m2 at i2 k2 x2 ⊢
   have bl:=hC _ _ i2
   have by2:=k2.1 _ _ hb hy0
   dsimp only at bl
   obtain⟨B2,R2,μ2⟩:=m2
   dsimp only at bl by2 x2
   by_cases hpe:p=s
   ·have hne:(p != s)=false:=by simp[hpe]
    have hfl:((pre++[p]).filter fun a=>decide (a≠s))=pre.filter fun a=>decide (a≠s):=by rw[List.filter_append];simp[hpe]
    simp -implicitDefEqProofs only[go_sem,Tryz.f101,Im,bl,by2,hne]
    exact⟨DZ.refl _ _,x2,.inl ⟨pre++[p],rest,by rw[h1];simp,by simp,by rw[hfl];exact i2,k2⟩⟩
   ·have hne:(p != s)=true:=by simpa using hpe
    have hfl:((pre++[p]).filter fun a=>decide (a≠s)).length=(pre.filter fun a=>decide (a≠s)).length+1:=by rw[List.filter_append];simp[hpe]
    have hget:=AB2 s pre rest p hpe
    rw[← h1] at hget
    simp -implicitDefEqProofs only[go_sem,Tryz.f101,Im,bl,by2,hne]
    refine(hY _ _ _ (by rw[List.getElem?_map,hget];rfl) ((ext0.keepB b).trans k2) i2).mono ?_
    rintro r ⟨B3,R3,μ3⟩ ⟨hk3,hcase⟩
    refine⟨False.elim,?_⟩
    have x3:=hk3.1 _ _ (by omega) x2
    rcases hcase with⟨rfl,hi3⟩|⟨rfl,hd3⟩
    ·simp -implicitDefEqProofs only[go_sem]
     exact⟨hk3.le (by omega),x3,.inl ⟨pre++[p],rest,by rw[h1];simp,by simp,by rw[hfl];exact hi3,k2.trans hk3⟩⟩
    ·simp -implicitDefEqProofs only[go_sem]
     exact⟨hk3.le (by omega),x3,.inr ⟨⟨_,rfl⟩,hd3,k2.trans hk3⟩⟩
 ·rintro m' ⟨pre,rest,h1,h2,h3,h4⟩
  rw[List.length_map,h1,List.length_append] at h2
  have hr:rest=[]:=List.length_eq_zero_iff.1 (by omega)
  subst hr
  rw[List.append_nil] at h1
  subst h1
  simp -implicitDefEqProofs only[go_sem]
  refine⟨(ext0.keepB b).trans h4,.inl ?_⟩
  show I (Lq s ps).length m'
  unfold Lq
  rw[List.length_map];exact h3
 ·rintro x m' ⟨rfl,h3,h4⟩
  simp -implicitDefEqProofs only[go_sem]
  exact⟨(ext0.keepB b).trans h4,.inr h3⟩
theorem Yt (s:AC) (B:List Ck) (R:List (Option (Nat × List AV))) (μ:TypeId→Bool):Ft Tryz.prog 61 [.w s] ⟨B,R,μ⟩ fun r m1=>r=.func 101 [] [.ptr B.length 0]∧m1=⟨B++[.cells [.w s]],R,μ⟩:=by
 refine Ft.of_slim mix AMW AMK (by rfl) ?_;simp -implicitDefEqProofs only[go_sem,Tryz.f61]
theorem GP.w:∀ (x:AC) (r:List (AC × AC)),GP x=some r→FnI Tryz.prog 61 [.w x] (r.map fun y=>[.w y.1,.w y.2]):=by
 intro s r h m
 obtain⟨ps,hps,h⟩:=AE h
 injection h with h
 subst h
 obtain⟨B,R,μ⟩:=m
 obtain⟨r0,m',h1,rfl,rfl⟩:=Yt s B R μ
 refine⟨_,_,_,_,[(B.length,.cells [.w s])],h1,⟨⟨[.cells [.w s]],rfl⟩,⟨[],by simp⟩,rfl⟩,?_,?_,?_⟩
 ·intro q hq
  rcases List.mem_cons.1 hq with rfl | hq
  ·simp
  ·cases hq
 ·intro b yv I D m hy hb hC hI hD h0 hIs hDs hY
  exact AAB s hps B.length b yv I D m hy hb (fun i m h=>hC i m h (B.length,.cells [.w s]) (List.mem_cons_self)) hI hD h0 hIs hDs hY
 ·intro q hq
  rcases List.mem_cons.1 hq with rfl | hq
  ·exact Nat.le_refl _
  ·cases hq
end
section
theorem AI3 {a b:Bool} (h:b=true→a=true):a=(b || (a&&!b)):=by cases a <;> cases b <;> simp_all
theorem AF7 {a b:Bool} (h:b=true→a=true):(a&&!(a&&!b))=b:=by cases a <;> cases b <;> simp_all
theorem AJ9 {a b:Bool} (h:true=(a&&!b)):a=true∧b=false:=by cases a <;> cases b <;> simp_all
theorem AKH {a b:Bool} (h:false=(a&&!b)) (k:b=true→a=true):a=b:=by cases a <;> cases b <;> simp_all
theorem AI7:∀ d:Nat,0<d→∃ j c,d=2 ^ (j+1) * c+2 ^ j:=by
 intro d
 induction d using Nat.strongRecOn with
 | _ d ih =>
  intro hd
  by_cases h:d % 2=1
  ·exact⟨0,d / 2,by simp;omega⟩
  ·obtain⟨j,c,e⟩:=ih (d / 2) (by omega) (by omega)
   refine⟨j+1,c,?_⟩
   have:d=2 * (d / 2):=by omega
   rw[this,e,Nat.pow_succ 2 (j+1),Nat.pow_succ 2 j]
   simp only[Nat.mul_add,Nat.mul_comm,Nat.mul_left_comm]
theorem NX (c b j i:Nat) (h:b<2 ^ j):(2 ^ j * c+b).testBit i=if i<j then b.testBit i else c.testBit (i - j):=Nat.testBit_two_pow_mul_add c h i
theorem Me {p s:AC} (h:inS p s=true):p.toNat≤s.toNat:=by
 have e:p=p&&&s:=by
  refine Jm fun n=>?_
  rw[Mo]
  cases hp:AY p n with
  | false=>rfl
  | true=>rw[(DB p s).1 h n hp];rfl
 rw[e,BitVec.toNat_and]
 exact Nat.and_le_right
theorem XG {s p:AC} (hp:inS p s=true) (hne:p≠s):inS ((p - s)&&&s) s=true∧p.toNat<((p - s)&&&s).toNat∧∀ x,inS x s=true→p.toNat<x.toNat→((p - s)&&&s).toNat≤x.toNat:=by
 have hps:=(Jl p s).1 hp
 let d:=s&&&~~~p
 have hdb:∀ i,i<64→d.getLsbD i=(s.getLsbD i&&!p.getLsbD i):=fun i hi=>by
  show (s&&&~~~p).getLsbD i=_
  rw[BitVec.getLsbD_and,BitVec.getLsbD_not];simp[hi]
 have hsum:s=p+d:=by
  rw[BitVec.add_eq_or_of_and_eq_zero p d]
  ·refine BitVec.eq_of_getLsbD_eq fun i hi=>?_
   rw[BitVec.getLsbD_or,hdb i hi]
   exact AI3 (hps i hi)
  ·refine BitVec.eq_of_getLsbD_eq fun i hi=>?_
   rw[BitVec.getLsbD_and,hdb i hi]
   cases h1:p.getLsbD i <;> simp
 have hd0:d≠0#64:=fun e=>hne (by rw[hsum,e,BitVec.add_zero])
 have hdpos:0<d.toNat:=by
  rcases Nat.eq_zero_or_pos d.toNat with h | h
  ·exact absurd (BitVec.eq_of_toNat_eq (by simpa using h)) hd0
  ·exact h
 have hdlt:=d.isLt
 obtain⟨j,c,hd⟩:=AI7 d.toNat hdpos
 have hj:j<64:=by
  apply Nat.lt_of_not_le;intro h
  have:2 ^ 64≤2 ^ j:=Nat.pow_le_pow_right (by omega) h
  omega
 have hpj:(2:Nat) ^ (j+1)=2 ^ j+2 ^ j:=by rw[Nat.pow_succ];omega
 have hp1:0<(2:Nat) ^ j:=Nat.pow_pos (by omega)
 have hdbit:∀ i,d.toNat.testBit i=if i<j+1 then decide (j=i) else c.testBit (i - (j+1)):=fun i=>by
  rw[hd,NX _ _ _ _ (by omega),Nat.testBit_two_pow]
 have hd1:∀ i,(d.toNat - 1).testBit i=if i<j+1 then decide (i<j) else c.testBit (i - (j+1)):=fun i=>by
  have e:d.toNat - 1=2 ^ (j+1) * c+(2 ^ j - 1):=by omega
  rw[e,NX _ _ _ _ (by omega),Nat.testBit_two_pow_sub_one]
 have hneg:p - s = ~~~(d - 1#64):=by
  have e1:(d - 1#64).toNat=d.toNat - 1:=by
   rw[BitVec.toNat_sub];simp;omega
  apply BitVec.eq_of_toNat_eq
  rw[BitVec.toNat_not,e1,BitVec.toNat_sub]
  have h1:s.toNat=p.toNat+d.toNat:=by
   have h2:=congrArg BitVec.toNat hsum
   rw[BitVec.toNat_add] at h2
   have h3:=Me hp
   have h4:=s.isLt
   have h5:=p.isLt
   omega
  have h4:=s.isLt
  omega
 have hqb:∀ i,i<64→((p - s)&&&s).getLsbD i=(s.getLsbD i&&!(d.toNat - 1).testBit i):=fun i hi=>by
  have e1:(d - 1#64).toNat=d.toNat - 1:=by
   rw[BitVec.toNat_sub];simp;omega
  rw[hneg,BitVec.getLsbD_and,BitVec.getLsbD_not,← e1]
  simp only[hi,decide_true,Bool.true_and]
  rw[Bool.and_comm];rfl
 have hsj:s.getLsbD j=true∧p.getLsbD j=false:=by
  have h1:=hdb j hj
  have h2:d.getLsbD j=true:=by
   show d.toNat.testBit j=true
   rw[hdbit,if_pos (by omega)];simp
  rw[h2] at h1
  exact AJ9 h1
 have hlow:∀ i,i<j→s.getLsbD i=p.getLsbD i:=fun i hi=>by
  have h1:=hdb i (by omega)
  have h2:d.getLsbD i=false:=by
   show d.toNat.testBit i=false
   rw[hdbit,if_pos (by omega)];simp;omega
  rw[h2] at h1
  exact AKH h1 (hps i (by omega))
 have hq:((p - s)&&&s).toNat=2 ^ (j+1) * (p.toNat / 2 ^ (j+1))+2 ^ j:=by
  apply Nat.eq_of_testBit_eq
  intro i
  rw[NX _ _ _ _ (by omega),Nat.testBit_two_pow,Nat.testBit_div_two_pow]
  by_cases hi:i<64
  ·have h0:((p - s)&&&s).toNat.testBit i=((p - s)&&&s).getLsbD i:=rfl
   rw[h0,hqb i hi,hd1]
   by_cases h1:i<j+1
   ·rw[if_pos h1,if_pos h1]
    by_cases h2:i<j
    ·have h3:j≠i:=by omega
     simp[h2,h3]
    ·have h3:i=j:=by omega
     subst h3
     simp[hsj.1]
   ·rw[if_neg h1,if_neg h1,show i - (j+1)+(j+1)=i by omega]
    have h2:c.testBit (i - (j+1))=d.getLsbD i:=by
     show _=d.toNat.testBit i
     rw[hdbit,if_neg h1]
    rw[h2,hdb i hi]
    exact AF7 (hps i hi)
  ·have h1:¬ i<j+1:=by omega
   rw[if_neg h1,show i - (j+1)+(j+1)=i by omega]
   have h2:∀ y:AC,y.toNat.testBit i=false:=fun y=>Nat.testBit_lt_two_pow (Nat.lt_of_lt_of_le y.isLt (Nat.pow_le_pow_right (by omega) (by omega)))
   rw[h2,h2]
 have modlow:∀ x:AC,inS x s=true→x.toNat % 2 ^ j≤p.toNat % 2 ^ j:=fun x hx=>by
  have e:x.toNat % 2 ^ j=(x.toNat % 2 ^ j)&&&(p.toNat % 2 ^ j):=by
   apply Nat.eq_of_testBit_eq
   intro i
   rw[Nat.testBit_and,Nat.testBit_mod_two_pow,Nat.testBit_mod_two_pow]
   by_cases hi:i<j
   ·have h1:=(Jl x s).1 hx i (by omega)
    rw[hlow i hi] at h1
    have h2:x.toNat.testBit i=x.getLsbD i:=rfl
    have h3:p.toNat.testBit i=p.getLsbD i:=rfl
    rw[h2,h3]
    cases h4:x.getLsbD i
    ·simp
    ·simp[hi,h1 h4]
   ·simp[hi]
  rw[e];exact Nat.and_le_right
 have split:∀ x:AC,x.toNat=2 ^ (j+1) * (x.toNat / 2 ^ (j+1))+(if x.getLsbD j=true then 2 ^ j else 0)+x.toNat % 2 ^ j:=fun x=>by
  have h1:=Nat.div_add_mod x.toNat (2 ^ (j+1))
  have h2:x.toNat % 2 ^ (j+1)=2 ^ j * (x.toNat / 2 ^ j % 2)+x.toNat % 2 ^ j:=by
   rw[Nat.pow_succ,Nat.mod_mul];omega
  have h3:x.getLsbD j=decide (x.toNat / 2 ^ j % 2=1):=by
   show x.toNat.testBit j=_
   rw[Nat.testBit_eq_decide_div_mod_eq]
  rw[h3]
  rcases Nat.mod_two_eq_zero_or_one (x.toNat / 2 ^ j) with h4 | h4
  ·rw[h4] at h2 ⊢;simp at h2 ⊢;omega
  ·rw[h4] at h2 ⊢;simp at h2 ⊢;omega
 have hpsp:=split p
 rw[hsj.2] at hpsp
 simp only[Bool.false_eq_true,if_false,Nat.add_zero] at hpsp
 have hpm:p.toNat % 2 ^ j<2 ^ j:=Nat.mod_lt _ hp1
 refine⟨?_,by omega,fun x hx hlt=>?_⟩
 ·refine(Jl _ _).2 fun i hi h=>?_
  rw[BitVec.getLsbD_and] at h
  simp at h;exact h.2
 ·rw[hq]
  have hxs:=split x
  have hxm:=modlow x hx
  rcases Nat.lt_trichotomy (x.toNat / 2 ^ (j+1)) (p.toNat / 2 ^ (j+1)) with h | h | h
  ·exfalso
   have h1:=Nat.mul_le_mul_left (2 ^ (j+1)) (show x.toNat / 2 ^ (j+1)+1≤p.toNat / 2 ^ (j+1) by omega)
   rw[Nat.mul_add] at h1
   have h2:(if x.getLsbD j=true then 2 ^ j else 0)≤2 ^ j:=by split <;> omega
   omega
  ·rw[h] at hxs
   split at hxs
   ·omega
   ·omega
  ·have h1:=Nat.mul_le_mul_left (2 ^ (j+1)) (show p.toNat / 2 ^ (j+1)+1≤x.toNat / 2 ^ (j+1) by omega)
   rw[Nat.mul_add] at h1
   omega
theorem AD2 (s:AC):(s - s)&&&s=0#64:=by
 rw[BitVec.sub_self];simp
theorem YR (s:AC):∀ (l pre:List AC) (p:AC),BS s=pre++l→l.head?=some p→FD (s,p)=some l:=by
 intro l
 induction l with
 | nil=>intro pre p _ h;cases h
 | cons x l ih =>
  intro pre p he h
  simp at h;subst h
  have hm:∀ y∈x :: l,y≠0#64∧inS y s=true:=fun y hy=>(CY s y).1 (by rw[he];exact List.mem_append_right _ hy)
  have hlt:=LF s
  rw[he] at hlt
  obtain⟨_,hl2,hl3⟩:=List.pairwise_append.1 hlt
  rw[List.pairwise_cons] at hl2
  obtain⟨hx0,hxs⟩:=hm x List.mem_cons_self
  rw[FD,if_neg (by simpa using hx0)]
  dsimp only
  have hin:∀ y,inS y s=true→x.toNat<y.toNat→y∈l:=fun y hy hxy=>by
   have hy0:y≠0#64:=by rintro rfl;simp at hxy
   have:=(CY s y).2 ⟨hy0,hy⟩
   rw[he] at this
   rcases List.mem_append.1 this with h1 | h1
   ·have:=hl3 y h1 x List.mem_cons_self;omega
   ·rcases List.mem_cons.1 h1 with rfl | h1
    ·omega
    ·exact h1
  by_cases hs:x=s
  ·have hl:l=[]:=by
    cases l with
    | nil=>rfl
    | cons z l =>
     have h1:=hl2.1 z List.mem_cons_self
     have h2:=Me (hm z (List.mem_cons_of_mem _ List.mem_cons_self)).2
     rw[hs] at h1;omega
   subst hl
   rw[hs,AD2,FD,if_pos (by simp)]
   rfl
  ·obtain⟨h1,h2,h3⟩:=XG hxs hs
   have h4:=hin _ h1 h2
   cases l with
   | nil=>cases h4
   | cons z l =>
    have hz:z=(x - s)&&&s:=by
     have h5:=h3 z (hm z (List.mem_cons_of_mem _ List.mem_cons_self)).2 (hl2.1 z List.mem_cons_self)
     rcases List.mem_cons.1 h4 with h6 | h6
     ·exact h6.symm
     ·have:=(List.pairwise_cons.1 hl2.2).1 _ h6
      omega
    rw[ih (pre++[x]) ((x - s)&&&s) (by rw[he];simp) (by simp[hz])]
    rfl
theorem PF (s:AC):Ey s=some (BS s):=by
 unfold Ey
 by_cases hs:s=0#64
 ·subst hs
  have e:BS (0#64:AC)=[]:=by
   cases h:BS (0#64:AC) with
   | nil=>rfl
   | cons x l =>
    have h1:=(CY 0#64 x).1 (by rw[h];exact List.mem_cons_self)
    exfalso
    refine h1.1 ((HH x).2 fun n=>?_)
    cases h2:AY x n with
    | false=>rfl
    | true=>have:=(DB x 0#64).1 h1.2 n h2;rw[HA] at this;cases this
  rw[e,FD,if_pos (by simp)]
 ·have h0:inS (0#64:AC) s=true:=(DB _ _).2 fun n h=>by rw[HA] at h;cases h
  obtain⟨h1,h2,h3⟩:=XG h0 (fun e=>hs e.symm)
  rw[show (-s)&&&s=(0#64 - s)&&&s by simp]
  have hq0:(0#64 - s)&&&s≠0#64:=by intro e;rw[e] at h2;simp at h2
  cases hl:BS s with
  | nil=>have:=(CY s _).2 ⟨hq0,h1⟩;rw[hl] at this;cases this
  | cons z l =>
   refine YR s (z :: l) [] _ hl ?_
   have hz:=(CY s z).1 (by rw[hl];exact List.mem_cons_self)
   have hz0:0<z.toNat:=by
    rcases Nat.eq_zero_or_pos z.toNat with h | h
    ·exact absurd (BitVec.eq_of_toNat_eq (by simpa using h)) hz.1
    ·exact h
   have h5:=h3 z hz.2 (by simpa using hz0)
   have h6:=(CY s _).2 ⟨hq0,h1⟩
   rw[hl] at h6
   rcases List.mem_cons.1 h6 with h7 | h7
   ·rw[BitVec.zero_sub] at h7;simp[h7]
   ·have h8:=LF s
    rw[hl] at h8
    have:=(List.pairwise_cons.1 h8).1 _ h7
    omega
end
section
theorem AIu:okF Tryz.f105=true:=by kernel_rfl
def Ik (x:AC × AC):Option (AC) :=
 if(decide (x.1 > (18446744073709551615#64 - x.2)))=true then
  some (18446744073709551615#64)
 else
  some (x.1+x.2)
instance Ik.w:AH Ik (fun x r=>Fn Tryz.prog 105 [.w x.1,.w x.2] (.w r)):=⟨by
 intro x r h
 rw[Ik] at h
 try dsimp only
 refine Fn.of_lc mix AJt AIu (by rfl) (flC (.atom _) (flC (.atom _) (flN))) (.atom _) ?_
 simp -implicitDefEqProofs only[go_sem,Tryz.f105]
 exact AN⟩
end
section
theorem AHm:okF Tryz.f104=true:=by kernel_rfl
theorem AJ5:okF Tryz.f68=true:=by kernel_rfl
def Af.l0 (x:List AC × AC × Int × Int):Option (AC) :=
 if(decide (x.2.2.2<x.2.2.1))=true then
  (AX x.1 x.2.2.2)>>=fun (e2:AC) =>
  Ik (x.2.1,e2)>>=fun r4 =>
  Af.l0 (x.1,r4,x.2.2.1,(w64 (x.2.2.2+1)))
 else
  some x.2.1
 partial_fixpoint
theorem Af.l0.ws:PC Af.l0 (fun x o=>∀ lo c (Q:EP) (hb:∀ s:AC,o=s→Q (.exit 0) ⟨[(1,.v (.w s))],[]⟩),AJ Tryz.prog 104 lo c 0 (VQ Q) ⟨[(0,.v (.slice .foreign (x.1.map AV.w))),(1,.v (.w x.2.1)),(2,.v (.func 105 [] [])),(9,.v (.i64 x.2.2.1)),(10,.v (.i64 x.2.2.2))],[]⟩):=by
 refine Af.l0.partial_correctness _ ?_
 ·intro Jf JG x o h
  have Sr:AH Jf _:=⟨JG⟩
  intro lo c Q hb
  refine AJ.step mix AET (by kernel_rfl) ?_
  simp -implicitDefEqProofs only[go_sem,Tryz.f104]
  exact AN
instance Af.l0.w:type_of% (AH.mk Af.l0.ws):=⟨Af.l0.ws⟩
def Af (x:List AC × AC):Option (AC) :=
 Af.l0 (x.1,x.2,(x.1.length:Int),0)>>=fun (o6:AC) =>
 some o6
instance Af.w:AH Af (fun x r=>Fn Tryz.prog 104 [.slice .foreign (x.1.map AV.w),.w x.2,.func 105 [] []] (.w r)):=⟨by
 intro x r h
 rw[Af] at h
 try dsimp only
 refine Fn.of_lc mix AET AHm (by rfl) (flC (AQ _ (fun _=>.atom _) _) (flC (.atom _) (flC (.func _ _ _ (flN) (flN)) (flN)))) (.atom _) ?_
 simp -implicitDefEqProofs only[go_sem,Tryz.f104]
 exact AN⟩
def Gz (x:List AC):Option (AC) :=
 Af (x,0#64)>>=fun r1 =>
 some r1
instance Gz.w:AH Gz (fun x r=>Fn Tryz.prog 68 [.slice .foreign (x.map AV.w)] (.w r)):=⟨by
 intro x r h
 rw[Gz] at h
 try dsimp only
 refine Fn.of_lc mix AMx AJ5 (by rfl) (flC (AQ _ (fun _=>.atom _) _) (flN)) (.atom _) ?_
 simp -implicitDefEqProofs only[go_sem,Tryz.f68]
 exact AN⟩
end
section
theorem AI5:okF Tryz.f124=true:=by kernel_rfl
def In (x:AC × AC):Option (AC × AC) :=
 some (((((x.1 >>> (32#64).toNat) * (x.2 >>> (32#64).toNat))+((((x.1 >>> (32#64).toNat) * (x.2&&&4294967295#64))+(((x.1&&&4294967295#64) * (x.2&&&4294967295#64)) >>> (32#64).toNat)) >>> (32#64).toNat))+((((((x.1 >>> (32#64).toNat) * (x.2&&&4294967295#64))+(((x.1&&&4294967295#64) * (x.2&&&4294967295#64)) >>> (32#64).toNat))&&&4294967295#64)+((x.1&&&4294967295#64) * (x.2 >>> (32#64).toNat))) >>> (32#64).toNat)),(x.1 * x.2))
instance In.w:AH In (fun x r=>Fn Tryz.prog 124 [.w x.1,.w x.2] (.tuple [.w r.1,.w r.2])):=⟨by
 intro x r h
 rw[In] at h
 try dsimp only
 refine Fn.of_lc mix AJs AI5 (by rfl) (flC (.atom _) (flC (.atom _) (flN))) (.tuple _ (flC (.atom _) (flC (.atom _) (flN)))) ?_
 simp -implicitDefEqProofs only[go_sem,Tryz.f124]
 exact AN⟩
end
section
theorem AHq:okF Tryz.f108=true:=by kernel_rfl
def Id (x:AC × AC):Option (AC) :=
 In (x.1,x.2)>>=fun r1 =>
 if(decide (r1.1 > 0#64))=true then
  some (18446744073709551615#64)
 else
  some r1.2
instance Id.w:AH Id (fun x r=>Fn Tryz.prog 108 [.w x.1,.w x.2] (.w r)):=⟨by
 intro x r h
 rw[Id] at h
 try dsimp only
 refine Fn.of_lc mix AJu AHq (by rfl) (flC (.atom _) (flC (.atom _) (flN))) (.atom _) ?_
 simp -implicitDefEqProofs only[go_sem,Tryz.f108]
 exact AN⟩
end
section
theorem AJH:okF Tryz.f145=true:=by kernel_rfl
def HJ (x:AC × AC):Option (AC) :=
 In (x.1,x.2)>>=fun r1 =>
 if(decide (r1.1 ≥ 65536#64))=true then
  some (18446744073709551615#64)
 else
  some ((r1.1 <<< (48#64).toNat)|||(r1.2 >>> (16#64).toNat))
instance HJ.w:AH HJ (fun x r=>Fn Tryz.prog 145 [.w x.1,.w x.2] (.w r)):=⟨by
 intro x r h
 rw[HJ] at h
 try dsimp only
 refine Fn.of_lc mix AL1 AJH (by rfl) (flC (.atom _) (flC (.atom _) (flN))) (.atom _) ?_
 simp -implicitDefEqProofs only[go_sem,Tryz.f145]
 exact AN⟩
end
section
theorem AJj:okF Tryz.f73=true:=by kernel_rfl
def EI (x:AC × AC):Option (AC) :=
 if(decide (x.2 > (18446744073709551615#64 - x.1)))=true then
  some (18446744073709551615#64)
 else
  some (x.1+x.2)
instance EI.w:AH EI (fun x r=>Fn Tryz.prog 73 [.w x.1,.w x.2] (.w r)):=⟨by
 intro x r h
 rw[EI] at h
 try dsimp only
 refine Fn.of_lc mix ANT AJj (by rfl) (flC (.atom _) (flC (.atom _) (flN))) (.atom _) ?_
 simp -implicitDefEqProofs only[go_sem,Tryz.f73]
 exact AN⟩
end
section
theorem AH7:okF Tryz.f111=true:=by kernel_rfl
def FY (x:AC × AC):Option (AC) :=
 if(x.1 != 0#64)=true then
  if x.1=0#64 then none else
  if(decide (x.2 > (18446744073709551615#64 / x.1)))=true then
   some (18446744073709551615#64)
  else
   some (x.1 * x.2)
 else
  some (x.1 * x.2)
instance FY.w:AH FY (fun x r=>Fn Tryz.prog 111 [.w x.1,.w x.2] (.w r)):=⟨by
 intro x r h
 rw[FY] at h
 try dsimp only
 refine Fn.of_lc mix AKz AH7 (by rfl) (flC (.atom _) (flC (.atom _) (flN))) (.atom _) ?_
 simp -implicitDefEqProofs only[go_sem,Tryz.f111]
 exact AN⟩
end
section
theorem AHx:okF Tryz.f148=true:=by kernel_rfl
def Gs (x:AC × AC):Option (AC) :=
 FY ((x.1 / 65536#64),x.2)>>=fun r1 =>
 FY ((x.1 % 65536#64),(x.2 / 65536#64))>>=fun r3 =>
 EI (r3,(((x.1 % 65536#64) * (x.2 % 65536#64)) / 65536#64))>>=fun r5 =>
 EI (r1,r5)>>=fun r7 =>
 some r7
instance Gs.w:AH Gs (fun x r=>Fn Tryz.prog 148 [.w x.1,.w x.2] (.w r)):=⟨by
 intro x r h
 rw[Gs] at h
 try dsimp only
 refine Fn.of_lc mix AKP AHx (by rfl) (flC (.atom _) (flC (.atom _) (flN))) (.atom _) ?_
 simp -implicitDefEqProofs only[go_sem,Tryz.f148]
 exact AN⟩
end
section
def NU:Nat:=18446744073709551615
def Cz (n:Nat):AC:=BitVec.ofNat 64 (min n NU)
theorem GK (n:Nat):(Cz n).toNat=min n NU:=by
 unfold Cz NU
 rw[BitVec.toNat_ofNat]
 omega
theorem AA6 (a b:AC):(if a > 18446744073709551615#64 - b then 18446744073709551615#64 else a+b)=Cz (a.toNat+b.toNat):=by
 apply BitVec.eq_of_toNat_eq
 rw[GK]
 have ha:=a.isLt;have hb:=b.isLt
 have e:(18446744073709551615#64 - b).toNat=18446744073709551615 - b.toNat:=by
  rw[BitVec.toNat_sub];simp only[BitVec.toNat_ofNat];omega
 unfold NU
 split
 ·rename_i h
  have h:(18446744073709551615#64 - b).toNat<a.toNat:=h
  rw[e] at h
  simp only[BitVec.toNat_ofNat];omega
 ·rename_i h
  have h:¬ (18446744073709551615#64 - b).toNat<a.toNat:=h
  rw[e] at h
  rw[BitVec.toNat_add];omega
theorem QG (a:AC):(a&&&4294967295#64).toNat=a.toNat % 4294967296:=by
 rw[BitVec.toNat_and]
 have:(4294967295#64).toNat=2 ^ 32 - 1:=by decide
 rw[this,Nat.and_two_pow_sub_one_eq_mod]
theorem Tx (a:AC):(a >>> (32#64).toNat).toNat=a.toNat / 4294967296:=by
 rw[BitVec.toNat_ushiftRight];show a.toNat >>> 32=_;rw[Nat.shiftRight_eq_div_pow]
def Ho (x y:AC):AC:=((x >>> (32#64).toNat) * (y >>> (32#64).toNat))+((((x >>> (32#64).toNat) * (y&&&4294967295#64))+(((x&&&4294967295#64) * (y&&&4294967295#64)) >>> (32#64).toNat)) >>> (32#64).toNat)+((((((x >>> (32#64).toNat) * (y&&&4294967295#64))+(((x&&&4294967295#64) * (y&&&4294967295#64)) >>> (32#64).toNat))&&&4294967295#64)+((x&&&4294967295#64) * (y >>> (32#64).toNat))) >>> (32#64).toNat)
theorem Mg {a b:AC} (ha:a.toNat≤4294967295) (hb:b.toNat≤4294967295):(a * b).toNat=a.toNat * b.toNat∧a.toNat * b.toNat≤18446744065119617025:=by
 have h:a.toNat * b.toNat≤4294967295 * 4294967295:=Nat.mul_le_mul ha hb
 rw[BitVec.toNat_mul]
 constructor
 ·rw[Nat.mod_eq_of_lt];omega
 ·omega
theorem ADh (A B C D k:Nat):(A * k+B) * (C * k+D)=A * C * (k * k)+(A * D+B * C) * k+B * D:=by
 rw[Nat.add_mul,Nat.mul_add,Nat.mul_add,Nat.mul_mul_mul_comm,Nat.mul_right_comm A k D,← Nat.mul_assoc B C k,Nat.add_mul]
 omega
theorem QM (x y:AC):(Ho x y).toNat=x.toNat * y.toNat / 18446744073709551616:=by
 have hx:=x.isLt;have hy:=y.isLt
 have a1:=Tx x;have b1:=Tx y;have a0:=QG x;have b0:=QG y
 unfold Ho
 generalize hA1:x >>> (32#64).toNat=A1 at *
 generalize hB1:y >>> (32#64).toNat=B1 at *
 generalize hA0:x&&&4294967295#64=A0 at *
 generalize hB0:y&&&4294967295#64=B0 at *
 have e11:=Mg (a:=A1) (b:=B1) (by omega) (by omega)
 have e10:=Mg (a:=A1) (b:=B0) (by omega) (by omega)
 have e01:=Mg (a:=A0) (b:=B1) (by omega) (by omega)
 have e00:=Mg (a:=A0) (b:=B0) (by omega) (by omega)
 have hxy:x.toNat * y.toNat=(A1.toNat * B1.toNat) * 18446744073709551616+(A1.toNat * B0.toNat+A0.toNat * B1.toNat) * 4294967296+A0.toNat * B0.toNat:=by
  have h1:x.toNat=A1.toNat * 4294967296+A0.toNat:=by omega
  have h2:y.toNat=B1.toNat * 4294967296+B0.toNat:=by omega
  rw[h1,h2]
  exact ADh _ _ _ _ _
 rw[hxy]
 generalize A1.toNat * B1.toNat=P11 at *
 generalize A1.toNat * B0.toNat=P10 at *
 generalize A0.toNat * B1.toNat=P01 at *
 generalize A0.toNat * B0.toNat=P00 at *
 have s1:=Tx (A0 * B0)
 have hmid:(A1 * B0+(A0 * B0) >>> (32#64).toNat).toNat=P10+P00 / 4294967296:=by
  rw[BitVec.toNat_add,s1,e10.1,e00.1];omega
 generalize A1 * B0+(A0 * B0) >>> (32#64).toNat=MID at *
 have s2:=Tx MID
 have l2:=QG MID
 have hcross:((MID&&&4294967295#64)+A0 * B1).toNat=(P10+P00 / 4294967296) % 4294967296+P01:=by
  rw[BitVec.toNat_add,l2,e01.1,hmid];omega
 generalize (MID&&&4294967295#64)+A0 * B1=CR at *
 have s3:=Tx CR
 rw[BitVec.toNat_add,BitVec.toNat_add,s2,s3,e11.1,hmid,hcross]
 omega
theorem AIk (a b:AC):(if Ho a b > 0#64 then 18446744073709551615#64 else a * b)=Cz (a.toNat * b.toNat):=by
 apply BitVec.eq_of_toNat_eq
 rw[GK]
 have h:=QM a b
 unfold NU
 split
 ·rename_i h1
  have h1:(0#64).toNat<(Ho a b).toNat:=h1
  rw[h] at h1
  simp only[BitVec.toNat_ofNat] at h1 ⊢
  omega
 ·rename_i h1
  have h1:¬ (0#64).toNat<(Ho a b).toNat:=h1
  rw[h] at h1
  rw[BitVec.toNat_mul]
  simp only[BitVec.toNat_ofNat] at h1
  omega
theorem ACy (a b:AC):(if Ho a b ≥ 65536#64 then 18446744073709551615#64 else(Ho a b <<< (48#64).toNat)|||((a * b) >>> (16#64).toNat))=Cz (a.toNat * b.toNat / 65536):=by
 apply BitVec.eq_of_toNat_eq
 rw[GK]
 have h:=QM a b
 unfold NU
 split
 ·rename_i h1
  have h1:(65536#64).toNat≤(Ho a b).toNat:=h1
  rw[h] at h1
  simp only[BitVec.toNat_ofNat] at h1 ⊢
  omega
 ·rename_i h1
  have h1:¬ (65536#64).toNat≤(Ho a b).toNat:=h1
  rw[h] at h1
  simp only[BitVec.toNat_ofNat] at h1
  rw[BitVec.toNat_or,BitVec.toNat_shiftLeft,BitVec.toNat_ushiftRight,h,BitVec.toNat_mul]
  show (a.toNat * b.toNat / 18446744073709551616) <<< 48 % 18446744073709551616|||(a.toNat * b.toNat % 18446744073709551616) >>> 16=_
  generalize a.toNat * b.toNat=N at *
  rw[Nat.shiftLeft_eq,Nat.shiftRight_eq_div_pow]
  have e1:N / 18446744073709551616 * 2 ^ 48 % 18446744073709551616=2 ^ 48 * (N / 18446744073709551616):=by omega
  rw[e1,← Nat.two_pow_add_eq_or_of_lt (by omega)]
  omega
theorem AIj (a b:AC):(if a != 0#64 then(if b > 18446744073709551615#64 / a then 18446744073709551615#64 else a * b) else a * b)=Cz (a.toNat * b.toNat):=by
 apply BitVec.eq_of_toNat_eq
 rw[GK]
 have ha:=a.isLt;have hb:=b.isLt
 unfold NU
 by_cases h0:a=0#64
 ·subst h0;simp
 ·have hpos:0<a.toNat:=by
   rcases Nat.eq_zero_or_pos a.toNat with h | h
   ·exact absurd (BitVec.eq_of_toNat_eq (by simpa using h)) h0
   ·exact h
  rw[if_pos (by simpa using h0)]
  have e:(18446744073709551615#64 / a).toNat=18446744073709551615 / a.toNat:=by rw[BitVec.toNat_udiv];rfl
  have key:b.toNat≤18446744073709551615 / a.toNat ↔ a.toNat * b.toNat≤18446744073709551615:=by
   rw[Nat.le_div_iff_mul_le hpos,Nat.mul_comm]
  split
  ·rename_i h1
   have h1:(18446744073709551615#64 / a).toNat<b.toNat:=h1
   rw[e] at h1
   have:¬ a.toNat * b.toNat≤18446744073709551615:=fun h=>absurd (key.2 h) (by omega)
   simp only[BitVec.toNat_ofNat];omega
  ·rename_i h1
   have h1:¬ (18446744073709551615#64 / a).toNat<b.toNat:=h1
   rw[e] at h1
   have:=key.1 (by omega)
   rw[BitVec.toNat_mul];omega
theorem AE8 (a b:AC):Cz ((Cz ((a / 65536#64).toNat * b.toNat)).toNat+(Cz ((Cz ((a % 65536#64).toNat * (b / 65536#64).toNat)).toNat+(((a % 65536#64) * (b % 65536#64)) / 65536#64).toNat)).toNat)=Cz (a.toNat * b.toNat / 65536):=by
 have ha:=a.isLt;have hb:=b.isLt
 apply BitVec.eq_of_toNat_eq
 simp only[GK]
 have e1:(a / 65536#64).toNat=a.toNat / 65536:=by rw[BitVec.toNat_udiv];rfl
 have e2:(a % 65536#64).toNat=a.toNat % 65536:=by rw[BitVec.toNat_umod];rfl
 have e3:(b / 65536#64).toNat=b.toNat / 65536:=by rw[BitVec.toNat_udiv];rfl
 have e4:(b % 65536#64).toNat=b.toNat % 65536:=by rw[BitVec.toNat_umod];rfl
 have hrs:(a.toNat % 65536) * (b.toNat % 65536)≤65535 * 65535:=Nat.mul_le_mul (by omega) (by omega)
 have e5:(((a % 65536#64) * (b % 65536#64)) / 65536#64).toNat=(a.toNat % 65536) * (b.toNat % 65536) / 65536:=by
  rw[BitVec.toNat_udiv,BitVec.toNat_mul,e2,e4,Nat.mod_eq_of_lt (by omega)];rfl
 rw[e1,e2,e3,e5]
 have hsum:a.toNat * b.toNat / 65536=(a.toNat / 65536) * b.toNat+(a.toNat % 65536) * (b.toNat / 65536)+(a.toNat % 65536) * (b.toNat % 65536) / 65536:=by
  have q:a.toNat=a.toNat / 65536 * 65536+a.toNat % 65536:=by omega
  have p:b.toNat=b.toNat / 65536 * 65536+b.toNat % 65536:=by omega
  have h1:a.toNat * b.toNat=((a.toNat / 65536) * b.toNat+(a.toNat % 65536) * (b.toNat / 65536)) * 65536+(a.toNat % 65536) * (b.toNat % 65536):=by
   generalize hA:a.toNat / 65536=A at *
   generalize hR:a.toNat % 65536=R at *
   generalize hB:b.toNat / 65536=B at *
   generalize hS:b.toNat % 65536=S at *
   rw[q]
   rw[Nat.add_mul,Nat.mul_right_comm]
   have:R * b.toNat=R * B * 65536+R * S:=by
    conv=>lhs;rw[p]
    rw[Nat.mul_add,Nat.mul_assoc]
   rw[this];omega
  rw[h1];omega
 rw[hsum]
 generalize (a.toNat / 65536) * b.toNat=U
 generalize (a.toNat % 65536) * (b.toNat / 65536)=V
 generalize (a.toNat % 65536) * (b.toNat % 65536) / 65536=W
 unfold NU
 omega
theorem TQ (m n:Nat):Cz ((Cz m).toNat+n)=Cz (m+n):=by
 apply BitVec.eq_of_toNat_eq
 simp only[GK]
 unfold NU;omega
theorem AER (a:AC):Cz a.toNat=a:=by
 apply BitVec.eq_of_toNat_eq
 rw[GK]
 have:=a.isLt
 unfold NU;omega
theorem AAf (a b:AC):Ik (a,b)=some (Cz (a.toNat+b.toNat)):=by
 unfold Ik
 rw[← AA6]
 dsimp only
 by_cases h:a > 18446744073709551615#64 - b
 ·rw[if_pos (by simpa using h),if_pos h]
 ·rw[if_neg (by simpa using h),if_neg h]
theorem KF (a b:AC):EI (a,b)=some (Cz (a.toNat+b.toNat)):=by
 unfold EI
 rw[Nat.add_comm,← AA6]
 dsimp only
 by_cases h:b > 18446744073709551615#64 - a
 ·rw[if_pos (by simpa using h),if_pos h]
 ·rw[if_neg (by simpa using h),if_neg h,BitVec.add_comm]
def OC (l:List AC):Nat:=(l.map BitVec.toNat).sum
theorem Od (l:List AC) (hl:l.length<9223372036854775808):Gz l=some (Cz (OC l)):=by
 have key:=Ic l (fun i (s:AC)=>Af.l0 (l,s,(l.length:Int),(i:Int))) (fun s l=>some (Cz (s.toNat+OC l))) (fun s=>by
   show Af.l0 _=_
   rw[Af.l0,if_neg (dge (by dsimp only;omega))]
   simp only[OC,List.map_nil,List.sum_nil,Nat.add_zero,AER])
  (fun i s h ih=>by
   show Af.l0 _=_
   rw[Af.l0,if_pos (dlt (by dsimp only;omega))]
   dsimp only
   rw[Ag h]
   simp only[Option.bind_eq_bind,Option.bind_some,AAf]
   rw[AU (by omega)]
   have:=ih (Cz (s.toNat+l[i].toNat))
   rw[this,TQ]
   simp only[OC,List.map_cons,List.sum_cons,Nat.add_assoc]) 0#64
 unfold Gz Af
 have key':Af.l0 (l,0#64,(l.length:Int),0)=some (Cz ((0#64).toNat+OC l)):=key
 simp only[key',Option.bind_eq_bind,Option.bind_some]
 simp
theorem SR (a b:AC):In (a,b)=some (Ho a b,a * b):=rfl
theorem Tn (a b:AC):Id (a,b)=some (Cz (a.toNat * b.toNat)):=by
 unfold Id
 rw[SR,← AIk]
 simp only[Option.bind_eq_bind,Option.bind_some]
 by_cases h:Ho a b > 0#64
 ·rw[if_pos (by simpa using h),if_pos h]
 ·rw[if_neg (by simpa using h),if_neg h]
theorem Yl (a b:AC):HJ (a,b)=some (Cz (a.toNat * b.toNat / 65536)):=by
 unfold HJ
 rw[SR,← ACy]
 simp only[Option.bind_eq_bind,Option.bind_some]
 by_cases h:Ho a b ≥ 65536#64
 ·rw[if_pos (by simpa using h),if_pos h]
 ·rw[if_neg (by simpa using h),if_neg h]
theorem Mc (a b:AC):FY (a,b)=some (Cz (a.toNat * b.toNat)):=by
 unfold FY
 rw[← AIj]
 dsimp only
 by_cases h0:a=0#64
 ·subst h0;simp
 ·have hA:(a != 0#64)=true:=by simpa using h0
  rw[if_pos hA,if_pos hA,if_neg h0]
  by_cases h:b > 18446744073709551615#64 / a
  ·rw[if_pos (by simpa using h),if_pos h]
  ·rw[if_neg (by simpa using h),if_neg h]
theorem Vk (a b:AC):Gs (a,b)=some (Cz (a.toNat * b.toNat / 65536)):=by
 unfold Gs
 simp only[Mc,KF,Option.bind_eq_bind,Option.bind_some]
 rw[AE8]
end
section
theorem ALj:okF Tryz.f26=true:=by kernel_rfl
mutual
def CX.l0 (x:Int × Int × Int × AB):Option (Int) :=
 if(decide (x.2.2.1<(x.2.2.2.Parts.length:Int)))=true then
  if(decide (x.2.1<x.1))=true then
   (AX x.2.2.2.Parts x.2.2.1)>>=fun (e3:AB) =>
   CX (e3,(w64 (x.1 - x.2.1)))>>=fun r5 =>
   CX.l0 (x.1,(w64 (x.2.1+r5)),(w64 (x.2.2.1+1)),x.2.2.2)
  else
   some x.2.1
 else
  some x.2.1
 partial_fixpoint
def CX (x:AB × Int):Option (Int) :=
 CX.l0 (x.2,1,0,x.1)>>=fun (o7:Int) =>
 some o7
 partial_fixpoint
end
theorem CX.l0.ws:PC CX.l0 (fun x o=>∀ lo c (Q:EP) (hb:∀ s:Int,o=s→Q (.exit 0) ⟨[(5,.v (.i64 s))],[]⟩),AJ Tryz.prog 26 lo c 0 (VQ Q) ⟨[(1,.v (.i64 x.1)),(2,.lref 2 0),(5,.v (.i64 x.2.1)),(6,.v (.i64 x.2.2.1))],[(2,[.v (.i64 x.2.2.2.Kind),.v (.i64 x.2.2.2.Truth),.v (.i64 x.2.2.2.Op),.v (.i64 x.2.2.2.A.Kind),.v (.i64 x.2.2.2.A.Table),.v (.i64 x.2.2.2.A.Col),.v (.bool x.2.2.2.A.Value.Null),.v (.i64 x.2.2.2.A.Value.N),.v (.i64 x.2.2.2.B.Kind),.v (.i64 x.2.2.2.B.Table),.v (.i64 x.2.2.2.B.Col),.v (.bool x.2.2.2.B.Value.Null),.v (.i64 x.2.2.2.B.Value.N),.v (.slice .foreign (x.2.2.2.Parts.map AB.av))])]⟩)∧PC CX (fun x r=>Fn Tryz.prog 26 [.agg (AB.C x.1),.i64 x.2] (.i64 r)):=by
 refine CX.l0.mutual_partial_correctness _ _ ?_ ?_
 ·intro Ix Vv IV Tt x o h
  have Rj:AH Ix _:=⟨IV⟩
  have AJJ:AH Vv _:=⟨Tt⟩
  intro lo c Q hb
  refine AJ.step mix AHJ (by kernel_rfl) ?_
  simp -implicitDefEqProofs only[go_sem,Tryz.f26]
  exact AN
 ·intro Ix IV x r h
  have Rj:AH Ix _:=⟨IV⟩
  refine Fn.of_lc mix AHJ ALj (by rfl) (flC (AB.flatC _) (flC (.atom _) (flN))) (.atom _) ?_
  simp -implicitDefEqProofs only[go_sem,Tryz.f26]
  exact AN
instance CX.w:type_of% (AH.mk CX.l0.ws.2):=⟨CX.l0.ws.2⟩
end
section
theorem ALt:okF Tryz.f10=true:=by kernel_rfl
def BA.l0 (x:Int × Int × Int × AA):Option (Int) :=
 if(decide (x.2.2.1<(x.2.2.2.Conj.length:Int)))=true then
  if(decide (x.2.1<x.1))=true then
   (AX x.2.2.2.Conj x.2.2.1)>>=fun (e3:AB) =>
   CX (e3,(w64 (x.1 - x.2.1)))>>=fun r5 =>
   BA.l0 (x.1,(w64 (x.2.1+r5)),(w64 (x.2.2.1+1)),x.2.2.2)
  else
   some x.2.1
 else
  some x.2.1
 partial_fixpoint
theorem BA.l0.ws:PC BA.l0 (fun x o=>∀ lo c (Q:EP) (hb:∀ s:Int,o=s→Q (.exit 0) ⟨[(1,.v (.i64 x.1)),(2,.lref 2 0),(5,.v (.i64 s))],[(2,[.v (.i64 x.2.2.2.Kind),.v (.i64 x.2.2.2.Table),.v (.slice .foreign (x.2.2.2.Kids.map AA.av)),.v (.slice .foreign (x.2.2.2.Conj.map AB.av)),.v (.bool x.2.2.2.Hash)])]⟩),AJ Tryz.prog 10 lo c 0 (VQ Q) ⟨[(1,.v (.i64 x.1)),(2,.lref 2 0),(5,.v (.i64 x.2.1)),(6,.v (.i64 x.2.2.1))],[(2,[.v (.i64 x.2.2.2.Kind),.v (.i64 x.2.2.2.Table),.v (.slice .foreign (x.2.2.2.Kids.map AA.av)),.v (.slice .foreign (x.2.2.2.Conj.map AB.av)),.v (.bool x.2.2.2.Hash)])]⟩):=by
 refine BA.l0.partial_correctness _ ?_
 ·intro SI QD x o h
  have AFT:AH SI _:=⟨QD⟩
  intro lo c Q hb
  refine AJ.step mix ACk (by kernel_rfl) ?_
  simp -implicitDefEqProofs only[go_sem,Tryz.f10]
  exact AN
instance BA.l0.w:type_of% (AH.mk BA.l0.ws):=⟨BA.l0.ws⟩
mutual
def BA.l1 (x:Int × Int × Int × AA):Option (Int) :=
 if(decide (x.2.2.1<(x.2.2.2.Kids.length:Int)))=true then
  if(decide (x.2.1<x.1))=true then
   (AX x.2.2.2.Kids x.2.2.1)>>=fun (e11:AA) =>
   BA (e11,(w64 (x.1 - x.2.1)))>>=fun r13 =>
   BA.l1 (x.1,(w64 (x.2.1+r13)),(w64 (x.2.2.1+1)),x.2.2.2)
  else
   some x.2.1
 else
  some x.2.1
 partial_fixpoint
def BA (x:AA × Int):Option (Int) :=
 BA.l0 (x.2,1,0,x.1)>>=fun (o7:Int) =>
 BA.l1 (x.2,o7,0,x.1)>>=fun (o15:Int) =>
 some o15
 partial_fixpoint
end
theorem BA.l1.ws:PC BA.l1 (fun x o=>∀ lo c (Q:EP) (hb:∀ s:Int,o=s→Q (.exit 2) ⟨[(5,.v (.i64 s))],[]⟩),AJ Tryz.prog 10 lo c 1 (VQ Q) ⟨[(1,.v (.i64 x.1)),(2,.lref 2 0),(5,.v (.i64 x.2.1)),(7,.v (.i64 x.2.2.1))],[(2,[.v (.i64 x.2.2.2.Kind),.v (.i64 x.2.2.2.Table),.v (.slice .foreign (x.2.2.2.Kids.map AA.av)),.v (.slice .foreign (x.2.2.2.Conj.map AB.av)),.v (.bool x.2.2.2.Hash)])]⟩)∧PC BA (fun x r=>Fn Tryz.prog 10 [.agg (AA.C x.1),.i64 x.2] (.i64 r)):=by
 refine BA.l1.mutual_partial_correctness _ _ ?_ ?_
 ·intro JC Vq IU UL x o h
  have SF:AH JC _:=⟨IU⟩
  have AI1:AH Vq _:=⟨UL⟩
  intro lo c Q hb
  refine AJ.step mix ACk (by kernel_rfl) ?_
  simp -implicitDefEqProofs only[go_sem,Tryz.f10]
  exact AN
 ·intro JC IU x r h
  have SF:AH JC _:=⟨IU⟩
  refine Fn.of_lc mix ACk ALt (by rfl) (flC (AA.flatC _) (flC (.atom _) (flN))) (.atom _) ?_
  simp -implicitDefEqProofs only[go_sem,Tryz.f10]
  exact AN
instance BA.w:type_of% (AH.mk BA.l1.ws.2):=⟨BA.l1.ws.2⟩
end
end Go.Proofs.YtjnnhjgjecgomaaGreat.G
