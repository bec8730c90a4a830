/-
Part 6 of the proof of DeepTells: merged by mkclaim.py (a program of this repo) out of texts of wip/g and printed models.
-/
import Derived.Test.YtjnnhjgjecgomaaGreatDeepTells5
set_option linter.unusedVariables false
set_option linter.unusedSimpArgs false
set_option maxRecDepth 100000
set_option maxHeartbeats 8000000
namespace Go.Proofs.YtjnnhjgjecgomaaGreat.G
section
open Classical
def asJ (x:Jw):AQ:=⟨x.Pred,x.Left,x.Right,x.Home⟩
def asO (x:GD):AI:=⟨x.Kind,x.Conj,x.Left,x.Right,x.Own,x.Home⟩
def Ou (g:FW):AF:=⟨g.Joins.map asJ,g.Ops.map asO⟩
theorem AGC {all:List AA} {owns:List AC} {i:Int} {l r:AC} {home:Int} {g0:AF} (t:AA):∀ (post pre:List AB) (s:AC) (g:AF),pre++post=t.Conj→g.Joins.length+post.length≤1000000→pre.length+post.length≤1000000→(∀ p∈post,p.size≤1000000) →
  AP.l3 (all,owns,i,l,r,home,s,(pre.length:Int),g0,g,t)=some (s|||Kh post,⟨g.Joins++(if t.Kind=1 then post.map fun p=>⟨p,p.tabs&&&l,p.tabs&&&r,home⟩ else []),g.Ops⟩):=by
 intro post
 induction post with
 | nil =>
  intro pre s g e h h2 _
  rw[List.append_nil] at e;subst e
  rw[AP.l3,if_neg (dge (by simp))]
  simp[Kh]
 | cons x post ih =>
  intro pre s g e h h2 hs
  rw[List.length_cons] at h h2
  have hl:pre.length+(post.length+1)=t.Conj.length:=by rw[← e,List.length_append];rfl
  have hx:=hs x List.mem_cons_self
  rw[AP.l3,if_pos (dlt (by dsimp only;omega))]
  dsimp only
  have hg:AU t.Conj (pre.length:Int)=some x:=by rw[← e];exact Tp _ _ _
  rw[hg,Aa (by omega)]
  simp -implicitDefEqProofs only[Option.bind_eq_bind,Option.bind_some]
  rw[NN x (by omega)]
  simp -implicitDefEqProofs only[Option.bind_some]
  have hs':∀ p∈post,p.size≤1000000:=fun p hp=>hs p (List.mem_cons_of_mem _ hp)
  by_cases k:t.Kind=1
  ·rw[if_pos (by simpa using k),Bt (by simp only[List.length_cons,List.length_nil];omega)]
   simp -implicitDefEqProofs only[Option.bind_some]
   have:=ih (pre++[x]) (s|||x.tabs) ⟨g.Joins++[⟨x,x.tabs&&&l,x.tabs&&&r,home⟩],g.Ops⟩ (by rw[← e,List.append_assoc];rfl) (by rw[Fv];omega) (by rw[Fv];omega) hs'
   rw[Fv] at this
   rw[this,if_pos k,if_pos k,UQ,BitVec.or_assoc]
   dsimp only
   rw[List.append_assoc];rfl
  ·rw[if_neg (by simpa using k)]
   have:=ih (pre++[x]) (s|||x.tabs) g (by rw[← e,List.append_assoc];rfl) (by omega) (by rw[Fv];omega) hs'
   rw[Fv] at this
   rw[this,if_neg k,if_neg k,UQ,BitVec.or_assoc]
theorem AB5 {cols:List Int} {all:List AA} {g0 g1:AF} (hlen:all.length≤1000000) (ok:∀ y∈all,Vq cols y) (hsz:∀ y∈all,y.size≤1000000):∀ (post pre:List AA) (s:List AC),pre++post=all→s.length≤pre.length →
  AP.l0 (all,s,(pre.length:Int),g0,g1)=some (s++Dw post):=by
 intro post
 induction post with
 | nil =>
  intro pre s e h
  rw[List.append_nil] at e;subst e
  rw[AP.l0,if_neg (dge (by simp))]
  simp[Dw,NB]
 | cons x post ih =>
  intro pre s e h
  have hl:pre.length+(post.length+1)=all.length:=by rw[← e,List.length_append];rfl
  have hx:x∈all:=by rw[← e];simp
  rw[AP.l0,if_pos (dlt (by dsimp only;omega))]
  dsimp only
  have hg:AU all (pre.length:Int)=some x:=by rw[← e];exact Tp _ _ _
  rw[hg,Aa (by omega)]
  simp -implicitDefEqProofs only[Option.bind_eq_bind,Option.bind_some]
  by_cases k:1<x.Kind
  ·rw[if_pos (by simpa using k)]
   cases ok x hx with
   | leaf hk=>omega
   | op a b hk1 hk2 hks =>
    have g1':x.Kids[1]?=some b:=by rw[hks];rfl
    have sb:b.size<x.size:=Cc (by rw[hks];simp)
    have:=hsz x hx
    rw[g1']
    simp -implicitDefEqProofs only[Option.bind_some]
    rw[Cz b (by omega)]
    simp -implicitDefEqProofs only[Option.bind_some]
    rw[Bt (by simp only[List.length_cons,List.length_nil];omega)]
    simp -implicitDefEqProofs only[Option.bind_some]
    have:=ih (pre++[x]) (s++[AX b]) (by rw[← e,List.append_assoc];rfl) (by rw[Fv,Fv];omega)
    rw[Fv] at this
    have e2:Dw (x :: post)=AX b :: Dw post:=by
     unfold Dw NB
     rw[List.filter_cons_of_pos (by simpa using k),List.map_cons,Rv hks]
    rw[this,e2,List.append_assoc];rfl
  ·rw[if_neg (by simpa using k)]
   have:=ih (pre++[x]) s (by rw[← e,List.append_assoc];rfl) (by rw[Fv];omega)
   rw[Fv] at this
   have e2:Dw (x :: post)=Dw post:=by
    unfold Dw NB
    rw[List.filter_cons_of_neg (by simpa using k)]
   rw[this,e2]
theorem AGz {cols:List Int} {all:List AA} {owns:List AC} {g0:AF} (hlen:all.length≤100000) (holen:owns.length≤1000000) (ok:∀ y∈all,Vq cols y) (hsz:∀ y∈all,y.size≤100000):∀ (post pre:List (AA × Int)) (g:AF),(pre++post).map Prod.fst=all→(∀ x∈post,x.1.Kind≠0→ACP owns (AX x.1) x.2)→g.Joins.length+ED (post.map Prod.fst)≤1000000→g.Ops.length≤pre.length →
  AP.l1 (all,owns,(pre.length:Int),g0,g)=some ⟨g.Joins++(EH post).map asJ,g.Ops++(FR post).map asO⟩:=by
 intro post
 induction post with
 | nil =>
  intro pre g e _ h h2
  rw[List.append_nil] at e
  have hl:pre.length=all.length:=by rw[← e,List.length_map]
  rw[AP.l1,if_neg (dge (by dsimp only;omega))]
  simp[EH,FR]
 | cons x post ih =>
  intro pre g e hsc h h2
  have hl:pre.length+(post.length+1)=all.length:=by rw[← e,List.length_map,List.length_append];rfl
  have hx:x.1∈all:=by rw[← e];simp
  rw[List.map_cons,PI] at h
  rw[AP.l1,if_pos (dlt (by dsimp only;omega))]
  dsimp only
  have hg:AU all (pre.length:Int)=some x.1:=by
   have h5:=Tp (pre.map Prod.fst) x.1 (post.map Prod.fst)
   rw[List.length_map] at h5
   rw[← e,List.map_append,List.map_cons];exact h5
  rw[hg,Aa (by omega)]
  simp -implicitDefEqProofs only[Option.bind_eq_bind,Option.bind_some]
  have hs':∀ x∈post,x.1.Kind≠0→ACP owns (AX x.1) x.2:=fun y hy=>hsc y (List.mem_cons_of_mem _ hy)
  have hxs:=hsz x.1 hx
  have e1:EH (x :: post)=EH [x]++EH post:=Xs [x] post
  have e2:FR (x :: post)=FR [x]++FR post:=Nu [x] post
  have next:∀ g':AF,g'.Joins.length+ED (post.map Prod.fst)≤1000000→g'.Ops.length≤pre.length+1→AP.l1 (all,owns,((pre.length+1:Nat):Int),g0,g')=some ⟨g'.Joins++(EH post).map asJ,g'.Ops++(FR post).map asO⟩:=by
   intro g' h1 h2
   have:=ih (pre++[x]) g' (by rw[← e,List.append_assoc];rfl) hs' h1 (by rw[Fv];exact h2)
   rw[Fv] at this
   exact this
  cases hself:ok x.1 hx with
  | leaf hk hks hc =>
   rw[if_pos (by simpa using hk),next g (by omega) (by omega),e1,e2]
   have k1:EH [x]=[]:=by simp[EH,hk]
   have k2:FR [x]=[]:=by simp[FR,hk]
   rw[k1,k2];rfl
  | op a b hk1 hk2 hks =>
   have sa:a.size<x.1.size:=Cc (by rw[hks];simp)
   have sb:b.size<x.1.size:=Cc (by rw[hks];simp)
   have hcl:=LI x.1
   have g0':x.1.Kids[0]?=some a:=by rw[hks];rfl
   have g1':x.1.Kids[1]?=some b:=by rw[hks];rfl
   rw[if_neg (by simp;omega),g0',g1']
   simp -implicitDefEqProofs only[Option.bind_some]
   rw[Cz a (by omega),Cz b (by omega)]
   simp -implicitDefEqProofs only[Option.bind_some]
   have hsx:=hsc x List.mem_cons_self (by omega)
   have ht:AX x.1=AX a|||AX b:=by
    unfold AX
    rw[NL hks,Cy,Cy,HD [] (by omega)]
    have:Ag []=[]:=rfl
    rw[this,List.append_nil,Od]
   rw[ht] at hsx
   rw[AIf holen hsx]
   simp -implicitDefEqProofs only[Option.bind_some]
   have h3:=AGC (all:=all) (owns:=owns) (i:=(pre.length:Int)) (l:=AX a) (r:=AX b) (home:=x.2) (g0:=g0) x.1 x.1.Conj [] 0#64 g (List.nil_append _) (by omega) (by simp;omega) (fun p hp=>by have:=KQ hp;omega)
   have t0:(([]:List AB).length:Int)=0:=rfl
   rw[t0] at h3
   rw[h3]
   simp -implicitDefEqProofs only[Option.bind_some]
   rw[BitVec.zero_or]
   by_cases k:1<x.1.Kind
   ·have k':¬ x.1.Kind=1:=by omega
    rw[if_pos (by simpa using k),if_neg k',List.append_nil,Bt (by simp only[List.length_cons,List.length_nil];omega)]
    simp -implicitDefEqProofs only[Option.bind_some]
    rw[next _ (by dsimp only;omega) (by dsimp only;rw[Fv];omega),e1,e2]
    have k1:EH [x]=[]:=by simp[EH,k']
    have k2:FR [x]=[Wj x]:=by simp[FR,k]
    have k3:(⟨x.1.Kind,x.1.Conj,Kh x.1.Conj&&&AX a,Kh x.1.Conj&&&AX b,AX b,x.2⟩:AI)=asO (Wj x):=by
     unfold asO Wj
     rw[MX hks,Rv hks]
    rw[k1,k2,k3]
    dsimp only
    rw[List.append_assoc];rfl
   ·have k':x.1.Kind=1:=by omega
    rw[if_neg (by simpa using k),if_pos k',next _ (by dsimp only;rw[List.length_append,List.length_map];omega) (by dsimp only;omega),e1,e2]
    have k1:EH [x]=mkJ x:=by simp[EH,k']
    have k2:FR [x]=[]:=by simp[FR,k]
    have k3:(x.1.Conj.map fun p=>(⟨p,p.tabs&&&AX a,p.tabs&&&AX b,x.2⟩:AQ))=(mkJ x).map asJ:=by
     unfold mkJ
     rw[List.map_map,MX hks,Rv hks];rfl
    rw[k1,k2,k3]
    dsimp only
    rw[List.map_append,List.append_assoc];rfl
theorem AA7 {cols:List Int} (hc:cols.length≤64) {t:AA} (ok:OkT cols t) (hnd:(Ag t.tour).Nodup) (hsz:t.size≤100000):AP t=some (Ou (Rs t)):=by
 have h1:=LL t
 have h2:=Lz t
 have hsy:∀ y∈t.tour,y.size≤100000:=fun y hy=>by have:=KP t y hy;omega
 have holen:(Dw t.tour).length≤t.tour.length:=by rw[Ey];exact List.length_filter_le _ _
 unfold AP
 rw[Kq t (by omega)]
 simp -implicitDefEqProofs only[Option.bind_eq_bind,Option.bind_some]
 have a0:=AB5 (cols:=cols) (g0:=⟨[],[]⟩) (g1:=⟨[],[]⟩) (all:=t.tour) (by omega) ok (fun y hy=>by have:=hsy y hy;omega) t.tour [] [] (List.nil_append _) (Nat.le_refl _)
 have t0:(([]:List AA).length:Int)=0:=rfl
 rw[t0] at a0
 rw[a0]
 simp -implicitDefEqProofs only[Option.bind_some,List.nil_append]
 have hsc:=AGo hc (Dw t.tour) t ok hnd 0 (-1) [] (by rw[List.drop_zero,List.append_nil]) ⟨.inl rfl,fun k hk ho=>by rw[Ey] at hk;omega⟩
 have a1:=AGz (cols:=cols) (g0:=⟨[],[]⟩) (owns:=Dw t.tour) (all:=t.tour) (by omega) (by omega) ok hsy (EU t 0 (-1)) [] ⟨[],[]⟩ (by rw[List.nil_append];exact JP t ok _ _) hsc (by rw[JP t ok];simp;omega) (Nat.le_refl _)
 have t1:(([]:List (AA × Int)).length:Int)=0:=rfl
 rw[t1] at a1
 rw[a1]
 rfl
end
section
open Classical
def HF:List GD→Nat→Int→Nat→Prop
 | [],_,_,_=>True
 | x :: l,i,home,top=>(x.Home=home∨((i:Int)<x.Home∧x.Home<(top:Int)))∧HF l (i+1) home top
theorem XO:∀ (l l':List GD) (i:Nat) (home:Int) (top:Nat),HF l i home top→HF l' (i+l.length) home top→HF (l++l') i home top:=by
 intro l
 induction l with
 | nil=>intro l' i home top _ h;exact h
 | cons x l ih =>
  intro l' i home top h h'
  refine⟨h.1,ih l' (i+1) home top h.2 ?_⟩
  rw[List.length_cons] at h'
  rw[show i+1+l.length=i+(l.length+1) by omega];exact h'
theorem AHU:∀ (l:List GD) (i:Nat) (home home':Int) (top top':Nat),HF l i home top→top≤top'→(home=home'∨(((i+l.length:Nat):Int)≤home∧home<(top':Int)))→HF l i home' top':=by
 intro l
 induction l with
 | nil=>intro i home home' top top' _ _ _;trivial
 | cons x l ih =>
  intro i home home' top top' h h2 h3
  rw[List.length_cons] at h3
  refine⟨?_,ih (i+1) home home' top top' h.2 h2 (by omega)⟩
  rcases h.1 with h | h
  ·rcases h3 with h3 | h3
   ·exact .inl (h.trans h3)
   ·exact .inr (by omega)
  ·exact .inr (by omega)
theorem AK0:∀ (l:List GD) (i:Nat) (home:Int) (top:Nat),HF l i home top→∀ k (h:k<l.length),l[k].Home=home∨(((i+k:Nat):Int)<l[k].Home∧l[k].Home<(top:Int)):=by
 intro l
 induction l with
 | nil=>intro i home top _ k h;cases h
 | cons x l ih =>
  intro i home top h k hk
  cases k with
  | zero=>exact h.1
  | succ k =>
   rw[List.getElem_cons_succ]
   have:=ih (i+1) home top h.2 k (by rw[List.length_cons] at hk;omega)
   rw[show i+(k+1)=i+1+k by omega];exact this
theorem ANa {t a b:AA} (h:t.Kids=[a,b]):CW t=CW a+CW b+if 1<t.Kind then 1 else 0:=by
 rw[← Ey,← Ey,← Ey,NL h,GJ,GJ,List.length_append,List.length_append,Uo h]
 congr 1
 split <;> rfl
theorem ZK {cols:List Int} (t:AA):OkT cols t→∀ off home,HF (FR (EU t off home)) off home (off+CW t)∧∀ x∈EU t off home,x.2=home∨((off:Int)≤x.2∧x.2<((off+CW t:Nat):Int)):=by
 induction t using AA.induct with
 | h t ih =>
  intro ok off home
  cases hself:ok.self with
  | leaf hk hks =>
   rw[WA hks]
   refine⟨?_,fun x hx=>?_⟩
   ·have k2:FR [(t,home)]=[]:=by simp[FR,hk]
    rw[k2];trivial
   ·have:x=(t,home):=by simpa using hx
    rw[this];exact .inl rfl
  | op a b hk1 hk2 hks =>
   have oka:OkT cols a:=ok.kid (by rw[hks];simp)
   have okb:OkT cols b:=ok.kid (by rw[hks];simp)
   have hn:=ANa hks
   obtain⟨a1,a2⟩:=ih a (by rw[hks];simp) oka off home
   obtain⟨b1,b2⟩:=ih b (by rw[hks];simp) okb (off+CW a) (if 1<t.Kind then((off+CW a+CW b:Nat):Int) else home)
   have la:=OW oka off home
   have lb:=OW okb (off+CW a) (if 1<t.Kind then((off+CW a+CW b:Nat):Int) else home)
   rw[Vw hks,Nu,Nu]
   refine⟨XO _ _ _ _ _ (XO _ _ _ _ _ (AHU _ _ _ _ _ _ a1 (by omega) (.inl rfl)) ?_) ?_,fun x hx=>?_⟩
   ·rw[la]
    refine AHU _ _ _ _ _ _ b1 (by omega) ?_
    rw[lb]
    by_cases e:1<t.Kind
    ·rw[if_pos e];rw[if_pos e] at hn;right;omega
    ·rw[if_neg e];exact .inl rfl
   ·by_cases e:1<t.Kind
    ·have k2:FR [(t,home)]=[Wj (t,home)]:=by simp[FR,e]
     rw[k2];exact⟨.inl rfl,trivial⟩
    ·have k2:FR [(t,home)]=[]:=by simp[FR,e]
     rw[k2];trivial
   ·rw[List.mem_append,List.mem_append] at hx
    rcases hx with (hx | hx) | hx
    ·rcases a2 x hx with h | h
     ·exact .inl h
     ·right;omega
    ·rcases b2 x hx with h | h
     ·by_cases e:1<t.Kind
      ·rw[if_pos e] at h hn;right;omega
      ·rw[if_neg e] at h;exact .inl h
     ·right;omega
    ·have:x=(t,home):=by simpa using hx
     rw[this];exact .inl rfl
structure ABo (g:FW):Prop where
 jl:g.Joins.length≤1000000
 ol:g.Ops.length≤1000000
 jp:∀ j∈g.Joins,j.Pred.size≤1000000
 ol2:∀ o∈g.Ops,o.Conj.length≤1000000
 op:∀ o∈g.Ops,∀ p∈o.Conj,p.size≤1000000
 jh:∀ j∈g.Joins,j.Home<(g.Ops.length:Int)
 oh:∀ i (h:i<g.Ops.length),g.Ops[i].Home = -1∨((i:Int)<g.Ops[i].Home∧g.Ops[i].Home<(g.Ops.length:Int))
theorem PO {cols:List Int} {t:AA} (ok:OkT cols t) {off:Nat} {home:Int} {x:AA × Int} (hx:x∈EU t off home):x.1∈t.tour:=by
 rw[← JP t ok off home];exact List.mem_map_of_mem hx
theorem ACr {cols:List Int} {t:AA} (ok:OkT cols t) (hsz:t.size≤100000):ABo (Rs t):=by
 have h1:=LL t
 have h2:=Lz t
 have lJ:=Uk ok 0 (-1)
 have lO:=OW ok 0 (-1)
 have hno:CW t≤t.tour.length:=List.length_filter_le _ _
 obtain⟨hf,hh⟩:=ZK t ok 0 (-1)
 have mJ:∀ j∈EH (EU t 0 (-1)),∃ x∈EU t 0 (-1),j.Pred∈x.1.Conj∧j.Home=x.2:=by
  intro j hj
  obtain⟨x,hx,hj⟩:=List.mem_flatMap.1 hj
  split at hj
  ·obtain⟨p,hp,rfl⟩:=List.mem_map.1 hj
   exact⟨x,hx,hp,rfl⟩
  ·cases hj
 have mO:∀ o∈FR (EU t 0 (-1)),∃ x∈EU t 0 (-1),o.Conj=x.1.Conj:=by
  intro o ho
  obtain⟨x,hx,rfl⟩:=List.mem_map.1 ho
  exact⟨x,(List.mem_filter.1 hx).1,rfl⟩
 refine⟨by show (EH _).length≤_;omega,by show (FR _).length≤_;omega,fun j hj=>?_,fun o ho=>?_,fun o ho p hp=>?_,fun j hj=>?_,fun i hi=>?_⟩
 ·obtain⟨x,hx,hp,_⟩:=mJ j hj
  have:=KQ hp
  have:=KP t x.1 (PO ok hx);omega
 ·obtain⟨x,hx,e⟩:=mO o ho
  have:=LI x.1
  have:=KP t x.1 (PO ok hx)
  rw[e];omega
 ·obtain⟨x,hx,e⟩:=mO o ho
  rw[e] at hp
  have:=KQ hp
  have:=KP t x.1 (PO ok hx);omega
 ·obtain⟨x,hx,hp,e⟩:=mJ j hj
  have e2:(Rs t).Ops.length=CW t:=lO
  rw[e,e2]
  rcases hh x hx with h | h <;> omega
 ·have e2:(Rs t).Ops.length=CW t:=lO
  have:=AK0 _ _ _ _ hf i hi
  rw[Nat.zero_add,Nat.zero_add] at this
  rw[e2]
  exact this
end
section
def dH (g:FW):Nat→Nat→Nat
 | 0,_=>0
 | f+1,i=>match g.Ops[i]? with
  | some o=>if o.Home<0 then 0 else dH g f o.Home.toNat+1
  | none=>0
theorem ANy (g:FW):∀ f i,dH g f i≤f:=by
 intro f
 induction f with
 | zero=>intro i;exact Nat.le_refl _
 | succ f ih =>
  intro i
  rw[dH]
  split
  ·split
   ·omega
   ·have:=ih (Int.toNat (by assumption:GD).Home);omega
  ·omega
theorem AI4 {g:FW} (w:ABo g):∀ (n i f1 f2:Nat),g.Ops.length - i=n→g.Ops.length - i≤f1→g.Ops.length - i≤f2→dH g f1 i=dH g f2 i:=by
 intro n
 induction n using Nat.strongRecOn with
 | _ n ih =>
  intro i f1 f2 hn h1 h2
  by_cases hi:i<g.Ops.length
  ·obtain⟨f1,rfl⟩:∃ k,f1=k+1:=⟨f1 - 1,by omega⟩
   obtain⟨f2,rfl⟩:∃ k,f2=k+1:=⟨f2 - 1,by omega⟩
   rw[dH,dH,List.getElem?_eq_getElem hi]
   dsimp only
   rcases w.oh i hi with h | ⟨h3,h4⟩
   ·rw[if_pos (by omega),if_pos (by omega)]
   ·rw[if_neg (by omega),if_neg (by omega)]
    rw[ih (g.Ops.length - g.Ops[i].Home.toNat) (by omega) g.Ops[i].Home.toNat f1 f2 rfl (by omega) (by omega)]
  ·have hnone:g.Ops[i]?=none:=List.getElem?_eq_none (by omega)
   cases f1 <;> cases f2 <;> simp[dH,hnone]
theorem AGN {g:FW} (w:ABo g) (hJ:g.Joins.length≤100000) (hO:g.Ops.length≤1000):WF (Ou g) (fun i=>dH g g.Ops.length i) g.Ops.length:=by
 have hlen:(Ou g).Ops.length=g.Ops.length:=by simp[Ou]
 refine⟨by simpa [Ou] using hJ,by rw[hlen];exact hO,fun i _=>ANy g _ i,fun i hi=>?_,fun o ho=>?_,fun j hj=>?_⟩
 ·rw[hlen] at hi
  have e:(Ou g).Ops[i].Home=g.Ops[i].Home:=by simp[Ou,asO]
  rw[e]
  obtain⟨n,hn⟩:∃ n,g.Ops.length=n+1:=⟨g.Ops.length - 1,by omega⟩
  have hd:dH g g.Ops.length i=if g.Ops[i].Home<0 then 0 else dH g n g.Ops[i].Home.toNat+1:=by
   rw[hn,dH,List.getElem?_eq_getElem hi]
  rcases w.oh i hi with h | ⟨h3,h4⟩
  ·exact .inl ⟨h,by rw[hd,if_pos (by omega)]⟩
  ·refine .inr ⟨g.Ops[i].Home.toNat,by omega,by rw[hlen];omega,?_⟩
   rw[hd,if_neg (by omega)]
   rw[AI4 w _ g.Ops[i].Home.toNat n g.Ops.length rfl (by omega) (by omega)]
 ·obtain⟨x,hx,rfl⟩:=List.mem_map.1 ho
  exact⟨w.ol2 x hx,w.op x hx⟩
 ·obtain⟨x,hx,rfl⟩:=List.mem_map.1 hj
  exact w.jp x hx
theorem AIV (t:AA):(t.tour.map fun y=>wtC y.Conj).sum≤t.size:=by
 induction t using AA.induct with
 | h t ih =>
  have key:∀ l:List AA,(∀ y∈l,y∈t.Kids)→((l.flatMap AA.tour).map fun y=>wtC y.Conj).sum≤(l.map AA.size).sum:=by
   intro l
   induction l with
   | nil=>intro _;exact Nat.le_refl _
   | cons x l ih2 =>
    intro h
    have h1:=ih x (h x List.mem_cons_self)
    have h2:=ih2 fun y hy=>h y (List.mem_cons_of_mem _ hy)
    rw[List.flatMap_cons,List.map_append,List.sum_append,List.map_cons,List.sum_cons]
    omega
  have h1:=key t.Kids fun y hy=>hy
  rw[Dk,DX,List.map_append,List.sum_append]
  simp only[List.map_cons,List.map_nil,List.sum_cons,List.sum_nil]
  unfold wtC at h1 ⊢
  omega
theorem AKO {cols:List Int} {t:AA} (ok:OkT cols t):wtG (Ou (Rs t))≤t.size:=by
 refine Nat.le_trans ?_ (AIV t)
 rw[← JP t ok 0 (-1)]
 unfold wtG Ou Rs EH FR
 dsimp only
 generalize EU t 0 (-1)=l
 induction l with
 | nil=>exact Nat.le_refl _
 | cons x l ih =>
  have hj:∀ x:AA × Int,(((mkJ x).map asJ).map fun j=>j.Pred.size).sum=wtC x.1.Conj:=fun x=>by
   unfold mkJ wtC
   rw[List.map_map,List.map_map];rfl
  simp only[List.flatMap_cons,List.map_append,List.sum_append,List.map_cons,List.sum_cons]
  by_cases h1:x.1.Kind=1
  ·rw[if_pos h1,List.filter_cons_of_neg (by simp;omega),hj]
   omega
  ·rw[if_neg h1]
   by_cases h2:1<x.1.Kind
   ·rw[List.filter_cons_of_pos (by simpa using h2)]
    simp only[List.map_nil,List.sum_nil,List.map_cons,List.sum_cons,asO,Wj]
    omega
   ·rw[List.filter_cons_of_neg (by simpa using h2)]
    simp only[List.map_nil,List.sum_nil]
    omega
theorem AAy {cols:List Int} (hc:cols.length≤64) {t:AA} (ok:OkT cols t) (hnd:(Ag t.tour).Nodup) (hsz:t.size≤1000):∃ es,Ar t=some es∧es.length≤101000∧(∀ e∈es,e.Preds.length≤1000000∧∀ p∈e.Preds,p.size≤1000000)∧(es.map fun e=>wtC e.Preds).sum≤t.size:=by
 have h1:=LL t
 have h2:=Lz t
 have lJ:=Uk ok 0 (-1)
 have lO:=OW ok 0 (-1)
 have hno:CW t≤t.tour.length:=List.length_filter_le _ _
 obtain⟨es,q1,q2,q3,q4⟩:=ADA (AA7 hc ok hnd (by omega)) (AGN (ACr ok (by omega)) (by show (EH _).length≤_;omega) (by show (FR _).length≤_;omega))
 exact⟨es,q1,q2,q3,by rw[q4];exact AKO ok⟩
end
section
theorem AJY:okF Tryz.f142=true:=by kernel_rfl
def Bd.l0 (x:AC × List AD × Int × Int):Option (AC) :=
 if(decide (x.2.2.2<x.2.2.1))=true then
  (AU x.2.1 x.2.2.2)>>=fun (e2:AD) =>
  if(e2.Kind == 3)=true then
   Bd.l0 ((x.1|||e2.Right),x.2.1,x.2.2.1,(w64 (x.2.2.2+1)))
  else
   if(e2.Kind == 4)=true then
    Bd.l0 ((x.1|||e2.Right),x.2.1,x.2.2.1,(w64 (x.2.2.2+1)))
   else
    Bd.l0 (x.1,x.2.1,x.2.2.1,(w64 (x.2.2.2+1)))
 else
  some x.1
 partial_fixpoint
theorem Bd.l0.ws:PC Bd.l0 (fun x o=>∀ lo c (Q:EP) (hb:∀ s:AC,o=s→Q (.exit 0) ⟨[(3,.v (.w s))],[]⟩),AK Tryz.prog 142 lo c 0 (VQ Q) ⟨[(3,.v (.w x.1)),(6,.v (.slice .foreign (x.2.1.map AD.av))),(7,.v (.i64 x.2.2.1)),(8,.v (.i64 x.2.2.2))],[]⟩):=by
 refine Bd.l0.partial_correctness _ ?_
 ·intro Pt Ok x o h
  have ADM:AH Pt _:=⟨Ok⟩
  intro lo c Q hb
  refine AK.step mix AFL (by kernel_rfl) ?_
  simp -implicitDefEqProofs only[go_sem,Tryz.f142]
  exact AR
instance Bd.l0.w:type_of% (AH.mk Bd.l0.ws):=⟨Bd.l0.ws⟩
def Bd (x:List AD):Option (AC) :=
 Bd.l0 (0#64,x,(x.length:Int),0)>>=fun (o6:AC) =>
 some o6
instance Bd.w:AH Bd (fun x r=>Fn Tryz.prog 142 [.slice .foreign (x.map AD.av)] (.w r)):=⟨by
 intro x r h
 rw[Bd] at h
 try dsimp only
 refine Fn.of_lc mix AFL AJY (by rfl) (flC (AT _ AD.flat _) (flN)) (.atom _) ?_
 simp -implicitDefEqProofs only[go_sem,Tryz.f142]
 exact AR⟩
end
section
theorem AJW:okF Tryz.f143=true:=by kernel_rfl
def Bf.l0 (x:AC × List AC × Int × Int):Option (AC) :=
 if(decide (x.2.2.2<x.2.2.1))=true then
  (AU x.2.1 x.2.2.2)>>=fun (e2:AC) =>
  Iz (x.1,e2)>>=fun r4 =>
  Bf.l0 (r4,x.2.1,x.2.2.1,(w64 (x.2.2.2+1)))
 else
  some x.1
 partial_fixpoint
theorem Bf.l0.ws:PC Bf.l0 (fun x o=>∀ lo c (Q:EP) (hb:∀ s:AC,o=s→Q (.exit 0) ⟨[(3,.v (.w s))],[]⟩),AK Tryz.prog 143 lo c 0 (VQ Q) ⟨[(3,.v (.w x.1)),(6,.v (.slice .foreign (x.2.1.map AV.w))),(7,.v (.i64 x.2.2.1)),(8,.v (.i64 x.2.2.2))],[]⟩):=by
 refine Bf.l0.partial_correctness _ ?_
 ·intro OZ OM x o h
  have AB8:AH OZ _:=⟨OM⟩
  intro lo c Q hb
  refine AK.step mix AEb (by kernel_rfl) ?_
  simp -implicitDefEqProofs only[go_sem,Tryz.f143]
  exact AR
instance Bf.l0.w:type_of% (AH.mk Bf.l0.ws):=⟨Bf.l0.ws⟩
def Bf (x:List AC):Option (AC) :=
 Bf.l0 (1#64,x,(x.length:Int),0)>>=fun (o6:AC) =>
 some o6
instance Bf.w:AH Bf (fun x r=>Fn Tryz.prog 143 [.slice .foreign (x.map AV.w)] (.w r)):=⟨by
 intro x r h
 rw[Bf] at h
 try dsimp only
 refine Fn.of_lc mix AEb AJW (by rfl) (flC (AT _ (fun _=>.atom _) _) (flN)) (.atom _) ?_
 simp -implicitDefEqProofs only[go_sem,Tryz.f143]
 exact AR⟩
end
section
theorem AJV:okF Tryz.f121=true:=by kernel_rfl
@[go_sem] theorem AOV:lrp Tryz.prog 144 1=(15,[]):=by kernel_rfl
theorem AJR:okF Tryz.f144=true:=by kernel_rfl
@[go_sem] theorem AON:lrp Tryz.prog 122 2=(7,[]):=by kernel_rfl
theorem AIW:okF Tryz.f122=true:=by kernel_rfl
def Ax.l0 (x:List AC × List Int × Int × Int × List AD × Ay × AC):Option (List AC) :=
 if(decide (x.2.2.2.1<x.2.2.1))=true then
  (AU x.2.1 x.2.2.2.1)>>=fun (e6:Int) =>
  if(decide (e6<(x.2.2.2.2.2.1.Rows.length:Int)))=true then
   (AU x.2.2.2.2.2.1.Rows e6)>>=fun (e9:AC) =>
   (room 8 x.1 ([e9]))>>=fun (z11:List AC) =>
   Ax.l0 (z11,x.2.1,x.2.2.1,(w64 (x.2.2.2.1+1)),x.2.2.2.2.1,x.2.2.2.2.2.1,x.2.2.2.2.2.2)
  else
   Ax.l0 (x.1,x.2.1,x.2.2.1,(w64 (x.2.2.2.1+1)),x.2.2.2.2.1,x.2.2.2.2.2.1,x.2.2.2.2.2.2)
 else
  some x.1
 partial_fixpoint
theorem Ax.l0.ws:PC Ax.l0 (fun x o=>∀ lo c (Q:EP) (hb:∀ s:List AC,o=s→Q (.exit 0) ⟨[(3,.lref 3 0),(4,.lref 4 0),(5,.lref 5 0),(7,.own 100700 1 (s.map AV.w))],[(3,[.v (.slice .foreign (x.2.2.2.2.1.map AD.av))]),(4,[.v (.slice .foreign (x.2.2.2.2.2.1.Rows.map AV.w)),.v (.slice .foreign (x.2.2.2.2.2.1.Sel.map AV.w))]),(5,[.v (.w x.2.2.2.2.2.2)])]⟩),AK Tryz.prog 122 lo c 0 (VQ Q) ⟨[(3,.lref 3 0),(4,.lref 4 0),(5,.lref 5 0),(7,.own 100700 1 (x.1.map AV.w)),(17,.v (.slice .foreign (x.2.1.map AV.i64))),(18,.v (.i64 x.2.2.1)),(19,.v (.i64 x.2.2.2.1))],[(3,[.v (.slice .foreign (x.2.2.2.2.1.map AD.av))]),(4,[.v (.slice .foreign (x.2.2.2.2.2.1.Rows.map AV.w)),.v (.slice .foreign (x.2.2.2.2.2.1.Sel.map AV.w))]),(5,[.v (.w x.2.2.2.2.2.2)])]⟩):=by
 refine Ax.l0.partial_correctness _ ?_
 ·intro SE QB x o h
  have AFr:AH SE _:=⟨QB⟩
  intro lo c Q hb
  refine AK.step mix Za (by kernel_rfl) ?_
  simp -implicitDefEqProofs only[go_sem,Tryz.f122]
  exact AR
instance Ax.l0.w:type_of% (AH.mk Ax.l0.ws):=⟨Ax.l0.ws⟩
def Dx (x:AC × AC):Option (Bool) :=
 some ((x.1&&&~~~x.2) == 0#64)
instance Dx.w:AH Dx (fun x r=>Fn Tryz.prog 121 [.w x.1,.w x.2] (.bool r)):=⟨by
 intro x r h
 rw[Dx] at h
 try dsimp only
 refine Fn.of_lc mix ALT AJV (by rfl) (flC (.atom _) (flC (.atom _) (flN))) (.atom _) ?_
 simp -implicitDefEqProofs only[go_sem,Tryz.f121]
 exact AR⟩
def Gn (x:Int × Ay × List AD × AC):Option (Bool) :=
 if(decide (x.1<(x.2.1.Sel.length:Int)))=true then
  (AU x.2.2.1 x.1)>>=fun (e2:AD) =>
  Dx (e2.Uses,x.2.2.2)>>=fun r4 =>
  some r4
 else
  some false
instance Gn.w:AH Gn (fun x r=>FnB Tryz.prog 144 [(3000000,[.v (.slice .foreign (x.2.1.Rows.map AV.w)),.v (.slice .foreign (x.2.1.Sel.map AV.w))]),(3000001,[.v (.slice .foreign (x.2.2.1.map AD.av))]),(3000002,[.v (.w x.2.2.2)])] [.a (.i64 x.1),.p 3000000,.p 3000001,.p 3000002] (.bool r) [(3000000,[.v (.slice .foreign (x.2.1.Rows.map AV.w)),.v (.slice .foreign (x.2.1.Sel.map AV.w))]),(3000001,[.v (.slice .foreign (x.2.2.1.map AD.av))]),(3000002,[.v (.w x.2.2.2)])]):=⟨by
 intro x r h
 rw[Gn] at h
 try dsimp only
 refine FnB.of_lc mix AKq AJR (by rfl) (by rfl) fun c=>?_
 simp -implicitDefEqProofs only[go_sem,Tryz.f144]
 revert h;refine itE (fun h1 h=>?_) fun h1 h=>?_
 ·try simp -implicitDefEqProofs only[go_sem, *, -h]
  obtain⟨e2,h3,h⟩:=AE h;replace h3:=Dz h3;obtain⟨h3',h3⟩:=h3
  try simp -implicitDefEqProofs only[go_sem, *, -h]
  obtain⟨r4,h5,h⟩:=AE h
  refine .plain _ _ rfl (Dx.w.w (e2.Uses,x.2.2.2) _ h5) ?_
  try simp -implicitDefEqProofs only[go_sem, *, -h]
  injection h with h;subst h
  first | exact⟨AM,[],by rfl,AM⟩ | exact⟨AM,[],by rfl⟩ | exact⟨AM,[],by(simp -implicitDefEqProofs only[go_sem, *] <;> first | done | rfl | trivial)⟩ | exact⟨[],by rfl,AM⟩ | exact⟨[],by rfl,by(simp -implicitDefEqProofs only[go_sem, *] <;> first | done | rfl | trivial)⟩
 ·try simp -implicitDefEqProofs only[go_sem, *, -h]
  injection h with h;subst h
  first | exact⟨AM,[],by rfl,AM⟩ | exact⟨AM,[],by rfl⟩ | exact⟨AM,[],by(simp -implicitDefEqProofs only[go_sem, *] <;> first | done | rfl | trivial)⟩ | exact⟨[],by rfl,AM⟩ | exact⟨[],by rfl,by(simp -implicitDefEqProofs only[go_sem, *] <;> first | done | rfl | trivial)⟩⟩
def Ax.l1 (x:AC × Int × Int × List AD × Ay × AC):Option (AC) :=
 if(decide (x.2.2.1<x.2.1))=true then
  Gn (x.2.2.1,x.2.2.2.2.1,x.2.2.2.1,x.2.2.2.2.2)>>=fun r18 =>
  if r18=true then
   (AU x.2.2.2.2.1.Sel x.2.2.1)>>=fun (e21:AC) =>
   Hb (x.1,e21)>>=fun r23 =>
   Ax.l1 (r23,x.2.1,(w64 (x.2.2.1+1)),x.2.2.2.1,x.2.2.2.2.1,x.2.2.2.2.2)
  else
   Ax.l1 (x.1,x.2.1,(w64 (x.2.2.1+1)),x.2.2.2.1,x.2.2.2.2.1,x.2.2.2.2.2)
 else
  some x.1
 partial_fixpoint
theorem Ax.l1.ws:PC Ax.l1 (fun x o=>∀ lo c (Q:EP) (hb:∀ s:AC,o=s→Q (.exit 2) ⟨[(10,.v (.w s))],[]⟩),AK Tryz.prog 122 lo c 1 (VQ Q) ⟨[(4,.lref 4 0),(10,.v (.w x.1)),(11,.fn 144 [] [.p 4,.p 3,.p 5]),(41,.v (.i64 x.2.1)),(42,.v (.i64 x.2.2.1))],[(3,[.v (.slice .foreign (x.2.2.2.1.map AD.av))]),(4,[.v (.slice .foreign (x.2.2.2.2.1.Rows.map AV.w)),.v (.slice .foreign (x.2.2.2.2.1.Sel.map AV.w))]),(5,[.v (.w x.2.2.2.2.2)])]⟩):=by
 refine Ax.l1.partial_correctness _ ?_
 ·intro AFj Lg x o h
  intro lo c Q hb
  refine AK.step mix Za (by kernel_rfl) ?_
  simp -implicitDefEqProofs only[go_sem,Tryz.f122]
  revert h;refine itE (fun h17 h=>?_) fun h17 h=>?_
  ·try simp -implicitDefEqProofs only[go_sem, *, -h]
   obtain⟨r18,h19,h⟩:=AE h
   have hw:=Gn.w.w (x.2.2.1,x.2.2.2.2.1,x.2.2.2.1,x.2.2.2.2.2) _ h19
   refine .vars [] [(3000000,4),(3000001,3),(3000002,5)] _ _ _ _ hw AM (by rfl) (by rfl) (by rfl) (by rfl) AM AM AM ?_
   clear hw
   try simp -implicitDefEqProofs only[go_sem, *, -h]
   revert h;refine itE (fun h20 h=>?_) fun h20 h=>?_
   ·try simp -implicitDefEqProofs only[go_sem, *, -h]
    obtain⟨e21,h22,h⟩:=AE h;replace h22:=Dz h22;obtain⟨h22',h22⟩:=h22
    try simp -implicitDefEqProofs only[go_sem, *, -h]
    obtain⟨r23,h24,h⟩:=AE h
    refine .plain _ _ rfl (Hb.w.w (x.1,e21) _ h24) ?_
    try simp -implicitDefEqProofs only[go_sem, *, -h]
    exact AK.view [] AM (Lg _ _ h lo c Q hb)
   ·try simp -implicitDefEqProofs only[go_sem, *, -h]
    exact AK.view [] AM (Lg _ _ h lo c Q hb)
  ·try simp -implicitDefEqProofs only[go_sem, *, -h]
   injection h with h;subst h
   exact .inr ⟨[],_,by(simp -implicitDefEqProofs only[go_sem, *] <;> first | done | rfl | trivial),hb _ rfl⟩
instance Ax.l1.w:type_of% (AH.mk Ax.l1.ws):=⟨Ax.l1.ws⟩
def Ax (x:List AD × Ay × AC):Option (AC) :=
 Bd x.1>>=fun r1 =>
 Bw (x.2.2&&&~~~r1)>>=fun r3 =>
 Ax.l0 (([]:List AC),r3,(r3.length:Int),0,x.1,x.2.1,x.2.2)>>=fun (o13:List AC) =>
 Bf o13>>=fun r15 =>
 Ax.l1 (r15,(x.1.length:Int),0,x.1,x.2.1,x.2.2)>>=fun (o25:AC) =>
 some (Yz (1#64) o25)
instance Ax.w:AH Ax (fun x r=>Fn Tryz.prog 122 [.slice .foreign (x.1.map AD.av),.agg (Ay.C x.2.1),.w x.2.2] (.w r)):=⟨by
 intro x r h
 rw[Ax] at h
 try dsimp only
 refine Fn.of_lc mix Za AIW (by rfl) (flC (AT _ AD.flat _) (flC (Ay.flatC _) (flC (.atom _) (flN)))) (.atom _) ?_
 simp -implicitDefEqProofs only[go_sem,Tryz.f122]
 exact AR⟩
end
section
theorem AL1:okF Tryz.f92=true:=by kernel_rfl
def CT.l0 (x:AC × AC × List Int × List AD × Int × Int):Option (List Int) :=
 if(decide (x.2.2.2.2.2<x.2.2.2.2.1))=true then
  (AU x.2.2.2.1 x.2.2.2.2.2)>>=fun (e2:AD) =>
  Dx (e2.Uses,(x.1|||x.2.1))>>=fun r4 =>
  if r4=true then
   Dx (e2.Uses,x.1)>>=fun r7 =>
   if r7=true then
    CT.l0 (x.1,x.2.1,x.2.2.1,x.2.2.2.1,x.2.2.2.2.1,(w64 (x.2.2.2.2.2+1)))
   else
    Dx (e2.Uses,x.2.1)>>=fun r10 =>
    if r10=true then
     CT.l0 (x.1,x.2.1,x.2.2.1,x.2.2.2.1,x.2.2.2.2.1,(w64 (x.2.2.2.2.2+1)))
    else
     (room 8 x.2.2.1 ([x.2.2.2.2.2]))>>=fun (z13:List Int) =>
     CT.l0 (x.1,x.2.1,z13,x.2.2.2.1,x.2.2.2.2.1,(w64 (x.2.2.2.2.2+1)))
  else
   CT.l0 (x.1,x.2.1,x.2.2.1,x.2.2.2.1,x.2.2.2.2.1,(w64 (x.2.2.2.2.2+1)))
 else
  some x.2.2.1
 partial_fixpoint
theorem CT.l0.ws:PC CT.l0 (fun x o=>∀ lo c (Q:EP) (hb:∀ s:List Int,o=s→Q (.exit 0) ⟨[(7,.own 100700 1 (s.map AV.i64))],[]⟩),AK Tryz.prog 92 lo c 0 (VQ Q) ⟨[(1,.v (.w x.1)),(2,.v (.w x.2.1)),(7,.own 100700 1 (x.2.2.1.map AV.i64)),(10,.v (.slice .foreign (x.2.2.2.1.map AD.av))),(11,.v (.i64 x.2.2.2.2.1)),(12,.v (.i64 x.2.2.2.2.2))],[]⟩):=by
 refine CT.l0.partial_correctness _ ?_
 ·intro Tn ST x o h
  have AG6:AH Tn _:=⟨ST⟩
  intro lo c Q hb
  refine AK.step mix AHq (by kernel_rfl) ?_
  simp -implicitDefEqProofs only[go_sem,Tryz.f92]
  exact AR
instance CT.l0.w:type_of% (AH.mk CT.l0.ws):=⟨CT.l0.ws⟩
def CT (x:List AD × AC × AC):Option (List Int) :=
 CT.l0 (x.2.1,x.2.2,([]:List Int),x.1,(x.1.length:Int),0)>>=fun (o15:List Int) =>
 some o15
instance CT.w:AH CT (fun x r=>Fn Tryz.prog 92 [.slice .foreign (x.1.map AD.av),.w x.2.1,.w x.2.2] (.slice .foreign (r.map AV.i64))):=⟨by
 intro x r h
 rw[CT] at h
 try dsimp only
 refine Fn.of_lc mix AHq AL1 (by rfl) (flC (AT _ AD.flat _) (flC (.atom _) (flC (.atom _) (flN)))) (AT _ (fun _=>.atom _) _) ?_
 simp -implicitDefEqProofs only[go_sem,Tryz.f92]
 exact AR⟩
end
section
@[go_sem] theorem AQG:lrp Tryz.prog 95 1=(24,[]):=by kernel_rfl
theorem AKB:okF Tryz.f95=true:=by kernel_rfl
theorem AMS:okF Tryz.f94=true:=by kernel_rfl
theorem AFU:okF Tryz.f93=true:=by kernel_rfl
theorem AK3:okF Tryz.f96=true:=by kernel_rfl
@[go_sem] theorem APA:lrp Tryz.prog 55 7=(9,[]):=by kernel_rfl
@[go_sem] theorem AOe:lrp Tryz.prog 55 14=(6,[1000008,2000010]):=by kernel_rfl
theorem ALd:okF Tryz.f55=true:=by kernel_rfl
def FH (x:AD × AC × AC):Option (Ec) :=
 Dx (x.1.Left,x.2.1)>>=fun r1 =>
 if r1=true then
  Dx (x.1.Right,x.2.2)>>=fun r4 =>
  Dx (x.1.Right,x.2.1)>>=fun r6 =>
  if r6=true then
   Dx (x.1.Left,x.2.2)>>=fun r9 =>
   some (⟨(x.1.Kind == 1),r4,r9⟩:Ec)
  else
   some (⟨(x.1.Kind == 1),r4,false⟩:Ec)
 else
  Dx (x.1.Right,x.2.1)>>=fun r11 =>
  if r11=true then
   Dx (x.1.Left,x.2.2)>>=fun r14 =>
   some (⟨(x.1.Kind == 1),false,r14⟩:Ec)
  else
   some (⟨(x.1.Kind == 1),false,false⟩:Ec)
instance FH.w:AH FH (fun x r=>Fn Tryz.prog 95 [.agg (AD.C x.1),.w x.2.1,.w x.2.2] (.agg (Ec.C r))):=⟨by
 intro x r h
 rw[FH] at h
 try dsimp only
 refine Fn.of_lc mix ANr AKB (by rfl) (flC (AD.flatC _) (flC (.atom _) (flC (.atom _) (flN)))) (Ec.flatC _) ?_
 simp -implicitDefEqProofs only[go_sem,Tryz.f95]
 exact AR⟩
section
attribute [local instance] LZ
def Fu (x:AD × AC × AC):Option (Bool) :=
 FH (x.1,x.2.1,x.2.2)>>=fun r1 =>
 if r1.inner=true then
  if r1.fits=true then
   some true
  else
   some r1.turned
 else
  some false
instance Fu.w:AH Fu (fun x r=>FnB Tryz.prog 94 [(3000000,[.v (.w x.2.1)]),(3000001,[.v (.w x.2.2)])] [.a (.agg [.i64 x.1.Kind,.slice .foreign (x.1.Preds.map AB.av),.w x.1.Uses,.w x.1.Left,.w x.1.Right]),.p 3000000,.p 3000001] (.bool r) [(3000000,[.v (.w x.2.1)]),(3000001,[.v (.w x.2.2)])]):=⟨by
 intro x r h
 rw[Fu] at h
 try dsimp only
 refine FnB.of_lc mix ANI AMS (by rfl) (by rfl) fun c=>?_
 simp -implicitDefEqProofs only[go_sem,Tryz.f94]
 obtain⟨r1,h2,h⟩:=AE h
 refine .plain _ _ rfl (FH.w.w (x.1,x.2.1,x.2.2) _ h2) ?_
 try simp -implicitDefEqProofs only[go_sem]
 revert h;refine itE (fun h3 h=>?_) fun h3 h=>?_
 ·try simp -implicitDefEqProofs only[go_sem, *, -h]
  revert h;refine itE (fun h4 h=>?_) fun h4 h=>?_
  ·try simp -implicitDefEqProofs only[go_sem, *, -h]
   injection h with h;subst h
   first | exact⟨AM,[],by rfl,AM⟩ | exact⟨AM,[],by rfl⟩ | exact⟨AM,[],by(simp -implicitDefEqProofs only[go_sem, *] <;> first | done | rfl | trivial)⟩ | exact⟨[],by rfl,AM⟩ | exact⟨[],by rfl,by(simp -implicitDefEqProofs only[go_sem, *] <;> first | done | rfl | trivial)⟩
  ·try simp -implicitDefEqProofs only[go_sem, *, -h]
   injection h with h;subst h
   first | exact⟨AM,[],by rfl,AM⟩ | exact⟨AM,[],by rfl⟩ | exact⟨AM,[],by(simp -implicitDefEqProofs only[go_sem, *] <;> first | done | rfl | trivial)⟩ | exact⟨[],by rfl,AM⟩ | exact⟨[],by rfl,by(simp -implicitDefEqProofs only[go_sem, *] <;> first | done | rfl | trivial)⟩
 ·try simp -implicitDefEqProofs only[go_sem, *, -h]
  injection h with h;subst h
  first | exact⟨AM,[],by rfl,AM⟩ | exact⟨AM,[],by rfl⟩ | exact⟨AM,[],by(simp -implicitDefEqProofs only[go_sem, *] <;> first | done | rfl | trivial)⟩ | exact⟨[],by rfl,AM⟩ | exact⟨[],by rfl,by(simp -implicitDefEqProofs only[go_sem, *] <;> first | done | rfl | trivial)⟩⟩
end
section
attribute [local instance] LZ
def Af.l0 (x:List Int × Int × Int × AC × AC × AS × List AD):Option (Lp (Unit) (Bool)) :=
 if(decide (x.2.2.1<x.2.1))=true then
  (AU x.1 x.2.2.1)>>=fun (e2:Int) =>
  (AU x.2.2.2.2.2.2 e2)>>=fun (e4:AD) =>
  Fu (e4,x.2.2.2.1,x.2.2.2.2.1)>>=fun r6 =>
  if r6=true then
   Af.l0 (x.1,x.2.1,(w64 (x.2.2.1+1)),x.2.2.2.1,x.2.2.2.2.1,x.2.2.2.2.2.1,x.2.2.2.2.2.2)
  else
   some (.ret false)
 else
  some (.brk ())
 partial_fixpoint
theorem Af.l0.ws:PC Af.l0 (fun x o=>∀ lo c (Q:EP) (hb:∀ s:Unit,o=Lp.brk s→Q (.exit 0) ⟨[],[(3000000,[.v (.w x.2.2.2.1)]),(3000001,[.v (.w x.2.2.2.2.1)]),(3000002,[.v (.i64 x.2.2.2.2.2.1.Kind),.v (.slice .foreign (x.2.2.2.2.2.1.Edges.map AV.i64)),.own 86002002 14 (x.2.2.2.2.2.1.Preds.map AB.av)]),(3000003,[.v (.slice .foreign (x.2.2.2.2.2.2.map AD.av))])]⟩) (hr:∀ (r:Bool) (L:AO),o=.ret r→PE Tryz.prog [.tmp 4] (.bool r) (fun L=>∃ σ,Fh σ=true∧vwN σ [] L.N [(3000000,[.v (.w x.2.2.2.1)]),(3000001,[.v (.w x.2.2.2.2.1)]),(3000002,[.v (.i64 x.2.2.2.2.2.1.Kind),.v (.slice .foreign (x.2.2.2.2.2.1.Edges.map AV.i64)),.own 65002002 14 (x.2.2.2.2.2.1.Preds.map AB.av)]),(3000003,[.v (.slice .foreign (x.2.2.2.2.2.2.map AD.av))])]) .ret L→Q .ret L),AK Tryz.prog 93 lo c 0 (VQ Q) ⟨[(0,.fn 94 [] [.p 3000000,.p 3000001]),(2,.lref 3000003 0),(8,.v (.slice .foreign (x.1.map AV.i64))),(9,.v (.i64 x.2.1)),(10,.v (.i64 x.2.2.1))],[(3000000,[.v (.w x.2.2.2.1)]),(3000001,[.v (.w x.2.2.2.2.1)]),(3000002,[.v (.i64 x.2.2.2.2.2.1.Kind),.v (.slice .foreign (x.2.2.2.2.2.1.Edges.map AV.i64)),.own 86002002 14 (x.2.2.2.2.2.1.Preds.map AB.av)]),(3000003,[.v (.slice .foreign (x.2.2.2.2.2.2.map AD.av))])]⟩):=by
 refine Af.l0.partial_correctness _ ?_
 ·intro TC JY x o h
  intro lo c Q hb hr
  refine AK.step mix Yc (by kernel_rfl) ?_
  simp -implicitDefEqProofs only[go_sem,Tryz.f93]
  revert h;refine itE (fun h1 h=>?_) fun h1 h=>?_
  ·try simp -implicitDefEqProofs only[go_sem, *, -h]
   obtain⟨e2,h3,h⟩:=AE h;replace h3:=Dz h3;obtain⟨h3',h3⟩:=h3
   try simp -implicitDefEqProofs only[go_sem, *, -h]
   obtain⟨e4,h5,h⟩:=AE h;replace h5:=Dz h5;obtain⟨h5',h5⟩:=h5
   try simp -implicitDefEqProofs only[go_sem, *, -h]
   obtain⟨r6,h7,h⟩:=AE h
   have hw:=Fu.w.w (e4,x.2.2.2.1,x.2.2.2.2.1) _ h7
   refine .vars [] [(3000000,3000000),(3000001,3000001)] _ _ _ _ hw AM (by rfl) (by rfl) (by rfl) (by rfl) AM AM AM ?_
   clear hw
   try simp -implicitDefEqProofs only[go_sem, *, -h]
   revert h;refine itE (fun h8 h=>?_) fun h8 h=>?_
   ·try simp -implicitDefEqProofs only[go_sem, *, -h]
    exact AK.view [(86002002,some 86002002)] AM (JY _ _ h lo c Q hb hr)
   ·try simp -implicitDefEqProofs only[go_sem, *, -h]
    injection h with h;subst h
    exact .inl (hr _ _ rfl (by first | exact(show _∧_ from⟨AM,[(65002002,some 86002002)],by rfl,AM⟩) | exact(show _∧_ from⟨AM,[(65002002,some 86002002)],by rfl⟩) | exact(show _∧_ from⟨AM,[(65002002,some 86002002)],by(simp -implicitDefEqProofs only[go_sem, *] <;> first | done | rfl | trivial)⟩) | exact(show _∧_ from⟨[(65002002,some 86002002)],by rfl,AM⟩) | exact(show _∧_ from⟨[(65002002,some 86002002)],by rfl,by(simp -implicitDefEqProofs only[go_sem, *] <;> first | done | rfl | trivial)⟩)))
  ·try simp -implicitDefEqProofs only[go_sem, *, -h]
   injection h with h;subst h
   exact .inr ⟨[(86002002,some 86002002)],_,by(simp -implicitDefEqProofs only[go_sem, *] <;> first | done | rfl | trivial),hb _ rfl⟩
instance Af.l0.w:type_of% (AH.mk Af.l0.ws):=⟨Af.l0.ws⟩
end
section
attribute [local instance] LZ
def Af (x:AC × AC × AS × List AD):Option (Bool) :=
 Af.l0 (x.2.2.1.Edges,(x.2.2.1.Edges.length:Int),0,x.1,x.2.1,x.2.2.1,x.2.2.2)>>=fun (o9:Lp (Unit) (Bool))=>match o9 with
 | .brk s12 =>
  some true
 | .ret r11 =>
  some r11
instance Af.w:AH Af (fun x r=>FnB Tryz.prog 93 [(3000000,[.v (.w x.1)]),(3000001,[.v (.w x.2.1)]),(3000002,[.v (.i64 x.2.2.1.Kind),.v (.slice .foreign (x.2.2.1.Edges.map AV.i64)),.own 65002002 14 (x.2.2.1.Preds.map AB.av)]),(3000003,[.v (.slice .foreign (x.2.2.2.map AD.av))])] [.fn 94 [] [.p 3000000,.p 3000001],.p 3000002,.p 3000003] (.bool r) [(3000000,[.v (.w x.1)]),(3000001,[.v (.w x.2.1)]),(3000002,[.v (.i64 x.2.2.1.Kind),.v (.slice .foreign (x.2.2.1.Edges.map AV.i64)),.own 65002002 14 (x.2.2.1.Preds.map AB.av)]),(3000003,[.v (.slice .foreign (x.2.2.2.map AD.av))])]):=⟨by
 intro x r h
 rw[Af] at h
 try dsimp only
 refine FnB.of_lc mix Yc AFU (by rfl) (by rfl) fun c=>?_
 simp -implicitDefEqProofs only[go_sem,Tryz.f93]
 obtain⟨o9,h10,h⟩:=AE h
 refine AK.viewQ (AK.view [(86002002,some 65002002)] AM (Af.l0.w.w (x.2.2.1.Edges,(x.2.2.1.Edges.length:Int),0,x.1,x.2.1,x.2.2.1,x.2.2.2) _ h10 _ _ _ ?_ ?_))
 ·intro s12 hs';subst hs'
  try simp -implicitDefEqProofs only[go_sem]
  injection h with h;subst h
  first | exact⟨AM,[(65002002,some 86002002)],by rfl,AM⟩ | exact⟨AM,[(65002002,some 86002002)],by rfl⟩ | exact⟨AM,[(65002002,some 86002002)],by(simp -implicitDefEqProofs only[go_sem] <;> first | done | rfl | trivial)⟩ | exact⟨[(65002002,some 86002002)],by rfl,AM⟩ | exact⟨[(65002002,some 86002002)],by rfl,by(simp -implicitDefEqProofs only[go_sem] <;> first | done | rfl | trivial)⟩
 ·intro r11 L' hs' hL';subst hs'
  injection h with h;subst h
  first | exact hL' | (simp -implicitDefEqProofs only[go_sem];exact hL') | (simp -implicitDefEqProofs only[go_sem];simp -implicitDefEqProofs only[go_sem] at hL';exact hL')⟩
end
section
attribute [local instance] LZ
def BC.l1 (x:List Int × Int × Int × List AB × Int × Int × List AD × AS × AS):Option (AS) :=
 if(decide (x.2.2.2.2.2.1<x.2.2.2.2.1))=true then
  (AU x.2.2.2.1 x.2.2.2.2.2.1)>>=fun (e18:AB) =>
  Cn e18>>=fun r20 =>
  (room 128 x.2.2.2.2.2.2.2.2.Preds ([(⟨0,0,0,(⟨0,0,0,(⟨false,0⟩:BT)⟩:BF),(⟨0,0,0,(⟨false,0⟩:BT)⟩:BF),[]⟩:AB)]))>>=fun (z22:List AB) =>
  (AU z22 (x.2.2.2.2.2.2.2.2.Preds.length:Int))>>=fun (e24:AB) =>
  BC.l1 (x.1,x.2.1,x.2.2.1,x.2.2.2.1,x.2.2.2.2.1,(w64 (x.2.2.2.2.2.1+1)),x.2.2.2.2.2.2.1,x.2.2.2.2.2.2.2.1,(⟨x.2.2.2.2.2.2.2.2.Kind,x.2.2.2.2.2.2.2.2.Edges,(z22.set ((x.2.2.2.2.2.2.2.2.Preds.length:Int)).toNat r20)⟩:AS))
 else
  some x.2.2.2.2.2.2.2.2
 partial_fixpoint
theorem BC.l1.ws:PC BC.l1 (fun x o=>∀ lo c (Q:EP) (hb:∀ s:AS,o=s→Q (.exit 2) ⟨[(3,.lref 3 0),(6,.lref 6 0),(8,.lref 8 0),(63,.v (.slice .foreign (x.1.map AV.i64))),(64,.v (.i64 x.2.1)),(65,.v (.i64 x.2.2.1))],[(3,[.v (.slice .foreign (x.2.2.2.2.2.2.1.map AD.av))]),(6,[.v (.i64 x.2.2.2.2.2.2.2.1.Kind),.own 20000601 1 (x.2.2.2.2.2.2.2.1.Edges.map AV.i64),.own 70000602 14 (x.2.2.2.2.2.2.2.1.Preds.map AB.av)]),(8,[.v (.i64 s.Kind),.v (.slice .foreign (s.Edges.map AV.i64)),.own 70000802 14 (s.Preds.map AB.av)])]⟩),AK Tryz.prog 55 lo c 1 (VQ Q) ⟨[(3,.lref 3 0),(6,.lref 6 0),(8,.lref 8 0),(63,.v (.slice .foreign (x.1.map AV.i64))),(64,.v (.i64 x.2.1)),(65,.v (.i64 x.2.2.1)),(73,.v (.slice .foreign (x.2.2.2.1.map AB.av))),(74,.v (.i64 x.2.2.2.2.1)),(75,.v (.i64 x.2.2.2.2.2.1))],[(3,[.v (.slice .foreign (x.2.2.2.2.2.2.1.map AD.av))]),(6,[.v (.i64 x.2.2.2.2.2.2.2.1.Kind),.own 20000601 1 (x.2.2.2.2.2.2.2.1.Edges.map AV.i64),.own 70000602 14 (x.2.2.2.2.2.2.2.1.Preds.map AB.av)]),(8,[.v (.i64 x.2.2.2.2.2.2.2.2.Kind),.v (.slice .foreign (x.2.2.2.2.2.2.2.2.Edges.map AV.i64)),.own 70000802 14 (x.2.2.2.2.2.2.2.2.Preds.map AB.av)])]⟩):=by
 refine BC.l1.partial_correctness _ ?_
 ·intro AFn Qb x o h
  intro lo c Q hb
  refine AK.step mix ACj (by kernel_rfl) ?_
  simp -implicitDefEqProofs only[go_sem,Tryz.f55]
  revert h;refine itE (fun h17 h=>?_) fun h17 h=>?_
  ·try simp -implicitDefEqProofs only[go_sem, *, -h]
   obtain⟨e18,h19,h⟩:=AE h;replace h19:=Dz h19;obtain⟨h19',h19⟩:=h19
   try simp -implicitDefEqProofs only[go_sem, *, -h]
   obtain⟨r20,h21,h⟩:=AE h
   refine .plain _ _ rfl (Cn.w.w e18 _ h21) ?_
   try simp -implicitDefEqProofs only[go_sem, *, -h]
   obtain⟨z22,h23,h⟩:=AE h;replace h23:=KM h23;obtain⟨h23',rfl⟩:=h23
   refine HI.map (F:=AB.av) (xs:=x.2.2.2.2.2.2.2.2.Preds) (ys:=[(⟨0,0,0,(⟨0,0,0,(⟨false,0⟩:BT)⟩:BF),(⟨0,0,0,(⟨false,0⟩:BT)⟩:BF),[]⟩:AB)]) Zg Yj Xd XM rfl AB.len AM AM h23' ?_
   try simp -implicitDefEqProofs only[go_sem, *, -h]
   obtain⟨e24,h25,h⟩:=AE h;replace h25:=Dz h25;obtain⟨h25',h25⟩:=h25;have h25v:(x.2.2.2.2.2.2.2.2.Preds.length:Int)<((x.2.2.2.2.2.2.2.2.Preds++[(⟨0,0,0,(⟨0,0,0,(⟨false,0⟩:BT)⟩:BF),(⟨0,0,0,(⟨false,0⟩:BT)⟩:BF),[]⟩:AB)]).length:Int):=by have:=(List.getElem?_eq_some_iff.1 h25).1;omega
   try simp -implicitDefEqProofs only[go_sem, *, -h]
   refine QE.map (F:=AB.av) (xs:=(x.2.2.2.2.2.2.2.2.Preds++[(⟨0,0,0,(⟨0,0,0,(⟨false,0⟩:BT)⟩:BF),(⟨0,0,0,(⟨false,0⟩:BT)⟩:BF),[]⟩:AB)])) (x:=e24) (x':=r20) AM AM (by rfl) (by rfl) (by rfl) h25 (by first | rfl | (first | rfl | simp -implicitDefEqProofs only[go_sem, *] <;> rfl)) ?_
   try simp -implicitDefEqProofs only[go_sem, *, -h]
   exact AK.view [(20000601,some 20000601),(70000602,some 70000602),(70000802,some 50000085)] AM (Qb _ _ h lo c Q hb)
  ·try simp -implicitDefEqProofs only[go_sem, *, -h]
   injection h with h;subst h
   exact .inr ⟨[(20000601,some 20000601),(70000602,some 70000602),(70000802,some 70000802)],_,by(simp -implicitDefEqProofs only[go_sem, *] <;> first | done | rfl | trivial),hb _ rfl⟩
instance BC.l1.w:type_of% (AH.mk BC.l1.ws):=⟨BC.l1.ws⟩
end
section
attribute [local instance] LZ
def BC.l0 (x:List Int × Int × Int × List AD × AS × AS):Option (AS) :=
 if(decide (x.2.2.1<x.2.1))=true then
  (AU x.1 x.2.2.1)>>=fun (e13:Int) =>
  (AU x.2.2.2.1 e13)>>=fun (e15:AD) =>
  BC.l1 (x.1,x.2.1,x.2.2.1,e15.Preds,(e15.Preds.length:Int),0,x.2.2.2.1,x.2.2.2.2.1,x.2.2.2.2.2)>>=fun (o26:AS) =>
  BC.l0 (x.1,x.2.1,(w64 (x.2.2.1+1)),x.2.2.2.1,x.2.2.2.2.1,o26)
 else
  some x.2.2.2.2.2
 partial_fixpoint
theorem BC.l0.ws:PC BC.l0 (fun x o=>∀ lo c (Q:EP) (hb:∀ s:AS,o=s→Q (.exit 0) ⟨[(6,.lref 6 0),(8,.lref 8 0)],[(6,[.v (.i64 x.2.2.2.2.1.Kind),.own 20000601 1 (x.2.2.2.2.1.Edges.map AV.i64),.own 70000602 14 (x.2.2.2.2.1.Preds.map AB.av)]),(8,[.v (.i64 s.Kind),.v (.slice .foreign (s.Edges.map AV.i64)),.own 70000802 14 (s.Preds.map AB.av)])]⟩),AK Tryz.prog 55 lo c 0 (VQ Q) ⟨[(3,.lref 3 0),(6,.lref 6 0),(8,.lref 8 0),(63,.v (.slice .foreign (x.1.map AV.i64))),(64,.v (.i64 x.2.1)),(65,.v (.i64 x.2.2.1))],[(3,[.v (.slice .foreign (x.2.2.2.1.map AD.av))]),(6,[.v (.i64 x.2.2.2.2.1.Kind),.own 20000601 1 (x.2.2.2.2.1.Edges.map AV.i64),.own 70000602 14 (x.2.2.2.2.1.Preds.map AB.av)]),(8,[.v (.i64 x.2.2.2.2.2.Kind),.v (.slice .foreign (x.2.2.2.2.2.Edges.map AV.i64)),.own 70000802 14 (x.2.2.2.2.2.Preds.map AB.av)])]⟩):=by
 refine BC.l0.partial_correctness _ ?_
 ·intro SR RE x o h
  have AFx:AH SR _:=⟨RE⟩
  intro lo c Q hb
  refine AK.step mix ACj (by kernel_rfl) ?_
  simp -implicitDefEqProofs only[go_sem,Tryz.f55]
  exact AR
instance BC.l0.w:type_of% (AH.mk BC.l0.ws):=⟨BC.l0.ws⟩
end
section
attribute [local instance] LZ
def Fp (x:AD × AC × AC):Option (Bool) :=
 FH (x.1,x.2.1,x.2.2)>>=fun r1 =>
 if(decide (x.1.Kind > 1))=true then
  if(decide (x.1.Kind≤4))=true then
   some ((!r1.inner)&&(r1.fits&&true))
  else
   some false
 else
  some false
instance Fp.w:AH Fp (fun x r=>FnB Tryz.prog 96 [(3000000,[.v (.w x.2.1)]),(3000001,[.v (.w x.2.2)])] [.a (.agg [.i64 x.1.Kind,.slice .foreign (x.1.Preds.map AB.av),.w x.1.Uses,.w x.1.Left,.w x.1.Right]),.p 3000000,.p 3000001] (.bool r) [(3000000,[.v (.w x.2.1)]),(3000001,[.v (.w x.2.2)])]):=⟨by
 intro x r h
 rw[Fp] at h
 try dsimp only
 refine FnB.of_lc mix AOB AK3 (by rfl) (by rfl) fun c=>?_
 simp -implicitDefEqProofs only[go_sem,Tryz.f96]
 obtain⟨r1,h2,h⟩:=AE h
 refine .plain _ _ rfl (FH.w.w (x.1,x.2.1,x.2.2) _ h2) ?_
 try simp -implicitDefEqProofs only[go_sem]
 revert h;refine itE (fun h3 h=>?_) fun h3 h=>?_
 ·try simp -implicitDefEqProofs only[go_sem, *, -h]
  revert h;refine itE (fun h4 h=>?_) fun h4 h=>?_
  ·try simp -implicitDefEqProofs only[go_sem, *, -h]
   injection h with h;subst h
   first | exact⟨AM,[],by rfl,AM⟩ | exact⟨AM,[],by rfl⟩ | exact⟨AM,[],by(simp -implicitDefEqProofs only[go_sem, *] <;> first | done | rfl | trivial)⟩ | exact⟨[],by rfl,AM⟩ | exact⟨[],by rfl,by(simp -implicitDefEqProofs only[go_sem, *] <;> first | done | rfl | trivial)⟩
  ·try simp -implicitDefEqProofs only[go_sem, *, -h]
   injection h with h;subst h
   first | exact⟨AM,[],by rfl,AM⟩ | exact⟨AM,[],by rfl⟩ | exact⟨AM,[],by(simp -implicitDefEqProofs only[go_sem, *] <;> first | done | rfl | trivial)⟩ | exact⟨[],by rfl,AM⟩ | exact⟨[],by rfl,by(simp -implicitDefEqProofs only[go_sem, *] <;> first | done | rfl | trivial)⟩
 ·try simp -implicitDefEqProofs only[go_sem, *, -h]
  injection h with h;subst h
  first | exact⟨AM,[],by rfl,AM⟩ | exact⟨AM,[],by rfl⟩ | exact⟨AM,[],by(simp -implicitDefEqProofs only[go_sem, *] <;> first | done | rfl | trivial)⟩ | exact⟨[],by rfl,AM⟩ | exact⟨[],by rfl,by(simp -implicitDefEqProofs only[go_sem, *] <;> first | done | rfl | trivial)⟩⟩
end
section
attribute [local instance] LZ
def Ae.l0 (x:List Int × Int × Int × AC × AC × AS × List AD):Option (Lp (Unit) (Bool)) :=
 if(decide (x.2.2.1<x.2.1))=true then
  (AU x.1 x.2.2.1)>>=fun (e2:Int) =>
  (AU x.2.2.2.2.2.2 e2)>>=fun (e4:AD) =>
  Fp (e4,x.2.2.2.1,x.2.2.2.2.1)>>=fun r6 =>
  if r6=true then
   Ae.l0 (x.1,x.2.1,(w64 (x.2.2.1+1)),x.2.2.2.1,x.2.2.2.2.1,x.2.2.2.2.2.1,x.2.2.2.2.2.2)
  else
   some (.ret false)
 else
  some (.brk ())
 partial_fixpoint
theorem Ae.l0.ws:PC Ae.l0 (fun x o=>∀ lo c (Q:EP) (hb:∀ s:Unit,o=Lp.brk s→Q (.exit 0) ⟨[],[(3000000,[.v (.w x.2.2.2.1)]),(3000001,[.v (.w x.2.2.2.2.1)]),(3000002,[.v (.i64 x.2.2.2.2.2.1.Kind),.v (.slice .foreign (x.2.2.2.2.2.1.Edges.map AV.i64)),.own 86002002 14 (x.2.2.2.2.2.1.Preds.map AB.av)]),(3000003,[.v (.slice .foreign (x.2.2.2.2.2.2.map AD.av))])]⟩) (hr:∀ (r:Bool) (L:AO),o=.ret r→PE Tryz.prog [.tmp 4] (.bool r) (fun L=>∃ σ,Fh σ=true∧vwN σ [] L.N [(3000000,[.v (.w x.2.2.2.1)]),(3000001,[.v (.w x.2.2.2.2.1)]),(3000002,[.v (.i64 x.2.2.2.2.2.1.Kind),.v (.slice .foreign (x.2.2.2.2.2.1.Edges.map AV.i64)),.own 65002002 14 (x.2.2.2.2.2.1.Preds.map AB.av)]),(3000003,[.v (.slice .foreign (x.2.2.2.2.2.2.map AD.av))])]) .ret L→Q .ret L),AK Tryz.prog 93 lo c 0 (VQ Q) ⟨[(0,.fn 96 [] [.p 3000000,.p 3000001]),(2,.lref 3000003 0),(8,.v (.slice .foreign (x.1.map AV.i64))),(9,.v (.i64 x.2.1)),(10,.v (.i64 x.2.2.1))],[(3000000,[.v (.w x.2.2.2.1)]),(3000001,[.v (.w x.2.2.2.2.1)]),(3000002,[.v (.i64 x.2.2.2.2.2.1.Kind),.v (.slice .foreign (x.2.2.2.2.2.1.Edges.map AV.i64)),.own 86002002 14 (x.2.2.2.2.2.1.Preds.map AB.av)]),(3000003,[.v (.slice .foreign (x.2.2.2.2.2.2.map AD.av))])]⟩):=by
 refine Ae.l0.partial_correctness _ ?_
 ·intro Su JW x o h
  intro lo c Q hb hr
  refine AK.step mix Yc (by kernel_rfl) ?_
  simp -implicitDefEqProofs only[go_sem,Tryz.f93]
  revert h;refine itE (fun h1 h=>?_) fun h1 h=>?_
  ·try simp -implicitDefEqProofs only[go_sem, *, -h]
   obtain⟨e2,h3,h⟩:=AE h;replace h3:=Dz h3;obtain⟨h3',h3⟩:=h3
   try simp -implicitDefEqProofs only[go_sem, *, -h]
   obtain⟨e4,h5,h⟩:=AE h;replace h5:=Dz h5;obtain⟨h5',h5⟩:=h5
   try simp -implicitDefEqProofs only[go_sem, *, -h]
   obtain⟨r6,h7,h⟩:=AE h
   have hw:=Fp.w.w (e4,x.2.2.2.1,x.2.2.2.2.1) _ h7
   refine .vars [] [(3000000,3000000),(3000001,3000001)] _ _ _ _ hw AM (by rfl) (by rfl) (by rfl) (by rfl) AM AM AM ?_
   clear hw
   try simp -implicitDefEqProofs only[go_sem, *, -h]
   revert h;refine itE (fun h8 h=>?_) fun h8 h=>?_
   ·try simp -implicitDefEqProofs only[go_sem, *, -h]
    exact AK.view [(86002002,some 86002002)] AM (JW _ _ h lo c Q hb hr)
   ·try simp -implicitDefEqProofs only[go_sem, *, -h]
    injection h with h;subst h
    exact .inl (hr _ _ rfl (by first | exact(show _∧_ from⟨AM,[(65002002,some 86002002)],by rfl,AM⟩) | exact(show _∧_ from⟨AM,[(65002002,some 86002002)],by rfl⟩) | exact(show _∧_ from⟨AM,[(65002002,some 86002002)],by(simp -implicitDefEqProofs only[go_sem, *] <;> first | done | rfl | trivial)⟩) | exact(show _∧_ from⟨[(65002002,some 86002002)],by rfl,AM⟩) | exact(show _∧_ from⟨[(65002002,some 86002002)],by rfl,by(simp -implicitDefEqProofs only[go_sem, *] <;> first | done | rfl | trivial)⟩)))
  ·try simp -implicitDefEqProofs only[go_sem, *, -h]
   injection h with h;subst h
   exact .inr ⟨[(86002002,some 86002002)],_,by(simp -implicitDefEqProofs only[go_sem, *] <;> first | done | rfl | trivial),hb _ rfl⟩
instance Ae.l0.w:type_of% (AH.mk Ae.l0.ws):=⟨Ae.l0.ws⟩
end
section
attribute [local instance] LZ
def Ae (x:AC × AC × AS × List AD):Option (Bool) :=
 Ae.l0 (x.2.2.1.Edges,(x.2.2.1.Edges.length:Int),0,x.1,x.2.1,x.2.2.1,x.2.2.2)>>=fun (o9:Lp (Unit) (Bool))=>match o9 with
 | .brk s12 =>
  some true
 | .ret r11 =>
  some r11
instance Ae.w:AH Ae (fun x r=>FnB Tryz.prog 93 [(3000000,[.v (.w x.1)]),(3000001,[.v (.w x.2.1)]),(3000002,[.v (.i64 x.2.2.1.Kind),.v (.slice .foreign (x.2.2.1.Edges.map AV.i64)),.own 65002002 14 (x.2.2.1.Preds.map AB.av)]),(3000003,[.v (.slice .foreign (x.2.2.2.map AD.av))])] [.fn 96 [] [.p 3000000,.p 3000001],.p 3000002,.p 3000003] (.bool r) [(3000000,[.v (.w x.1)]),(3000001,[.v (.w x.2.1)]),(3000002,[.v (.i64 x.2.2.1.Kind),.v (.slice .foreign (x.2.2.1.Edges.map AV.i64)),.own 65002002 14 (x.2.2.1.Preds.map AB.av)]),(3000003,[.v (.slice .foreign (x.2.2.2.map AD.av))])]):=⟨by
 intro x r h
 rw[Ae] at h
 try dsimp only
 refine FnB.of_lc mix Yc AFU (by rfl) (by rfl) fun c=>?_
 simp -implicitDefEqProofs only[go_sem,Tryz.f93]
 obtain⟨o9,h10,h⟩:=AE h
 refine AK.viewQ (AK.view [(86002002,some 65002002)] AM (Ae.l0.w.w (x.2.2.1.Edges,(x.2.2.1.Edges.length:Int),0,x.1,x.2.1,x.2.2.1,x.2.2.2) _ h10 _ _ _ ?_ ?_))
 ·intro s12 hs';subst hs'
  try simp -implicitDefEqProofs only[go_sem]
  injection h with h;subst h
  first | exact⟨AM,[(65002002,some 86002002)],by rfl,AM⟩ | exact⟨AM,[(65002002,some 86002002)],by rfl⟩ | exact⟨AM,[(65002002,some 86002002)],by(simp -implicitDefEqProofs only[go_sem] <;> first | done | rfl | trivial)⟩ | exact⟨[(65002002,some 86002002)],by rfl,AM⟩ | exact⟨[(65002002,some 86002002)],by rfl,by(simp -implicitDefEqProofs only[go_sem] <;> first | done | rfl | trivial)⟩
 ·intro r11 L' hs' hL';subst hs'
  injection h with h;subst h
  first | exact hL' | (simp -implicitDefEqProofs only[go_sem];exact hL') | (simp -implicitDefEqProofs only[go_sem];simp -implicitDefEqProofs only[go_sem] at hL';exact hL')⟩
end
section
attribute [local instance] LZ
def BC (x:List AD × AC × AC):Option (AS × Bool) :=
 CT (x.1,x.2.1,x.2.2)>>=fun r1 =>
 if((r1.length:Int) == 0)=true then
  some ((⟨0,[],[]⟩:AS),false)
 else
  if((x.2.1&&&x.2.2) != 0#64)=true then
   some ((⟨0,[],[]⟩:AS),false)
  else
   Af (x.2.1,x.2.2,(⟨0,r1,[]⟩:AS),x.1)>>=fun r5 =>
   if r5=true then
    (((⟨0,r1,[]⟩:AS).Edges)[0]?)>>=fun (e8:Int) =>
    (AU x.1 e8)>>=fun (e10:AD) =>
    BC.l0 ((⟨0,r1,[]⟩:AS).Edges,(((⟨0,r1,[]⟩:AS).Edges).length:Int),0,x.1,(⟨0,[],[]⟩:AS),(⟨e10.Kind,(⟨0,r1,[]⟩:AS).Edges,(⟨0,r1,[]⟩:AS).Preds⟩:AS))>>=fun (o28:AS) =>
    some (o28,true)
   else
    if((((⟨0,r1,[]⟩:AS).Edges).length:Int) == 1)=true then
     Ae (x.2.1,x.2.2,(⟨0,r1,[]⟩:AS),x.1)>>=fun r31 =>
     if r31=true then
      (((⟨0,r1,[]⟩:AS).Edges)[0]?)>>=fun (e34:Int) =>
      (AU x.1 e34)>>=fun (e36:AD) =>
      BC.l0 ((⟨0,r1,[]⟩:AS).Edges,(((⟨0,r1,[]⟩:AS).Edges).length:Int),0,x.1,(⟨0,[],[]⟩:AS),(⟨e36.Kind,(⟨0,r1,[]⟩:AS).Edges,(⟨0,r1,[]⟩:AS).Preds⟩:AS))>>=fun (o38:AS) =>
      some (o38,true)
     else
      some ((⟨0,[],[]⟩:AS),false)
    else
     some ((⟨0,[],[]⟩:AS),false)
instance BC.w:AH BC (fun x r=>Fn Tryz.prog 55 [.slice .foreign (x.1.map AD.av),.w x.2.1,.w x.2.2] (.tuple [.agg (AS.C r.1),.bool r.2])):=⟨by
 intro x r h
 rw[BC] at h
 try dsimp only
 refine Fn.of_lc mix ACj ALd (by rfl) (flC (AT _ AD.flat _) (flC (.atom _) (flC (.atom _) (flN)))) (.tuple _ (flC (AS.flatC _) (flC (.atom _) (flN)))) ?_
 simp -implicitDefEqProofs only[go_sem,Tryz.f55]
 obtain⟨r1,h2,h⟩:=AE h
 refine .plain _ _ rfl (CT.w.w (x.1,x.2.1,x.2.2) _ h2) ?_
 try simp -implicitDefEqProofs only[go_sem]
 revert h;refine itE (fun h3 h=>?_) fun h3 h=>?_
 ·try simp -implicitDefEqProofs only[go_sem, *, -h]
  injection h with h;subst h
  exact AM
 ·try simp -implicitDefEqProofs only[go_sem, *, -h]
  revert h;refine itE (fun h4 h=>?_) fun h4 h=>?_
  ·try simp -implicitDefEqProofs only[go_sem, *, -h]
   injection h with h;subst h
   exact AM
  ·try simp -implicitDefEqProofs only[go_sem, *, -h]
   obtain⟨r5,h6,h⟩:=AE h
   have hw:=Af.w.w (x.2.1,x.2.2,(⟨0,r1,[]⟩:AS),x.1) _ h6
   refine .vars [(65002002,none)] [(3000000,4),(3000001,5),(3000002,8),(3000003,3)] _ _ _ _ hw AM (by rfl) (by rfl) (by rfl) (by rfl) AM AM AM ?_
   clear hw
   try simp -implicitDefEqProofs only[go_sem, *, -h]
   revert h;refine itE (fun h7 h=>?_) fun h7 h=>?_
   ·try simp -implicitDefEqProofs only[go_sem, *, -h]
    obtain⟨e8,h9,h⟩:=AE h
    try simp -implicitDefEqProofs only[go_sem, *, -h]
    obtain⟨e10,h11,h⟩:=AE h;replace h11:=Dz h11;obtain⟨h11',h11⟩:=h11
    try simp -implicitDefEqProofs only[go_sem, *, -h]
    obtain⟨o28,h29,h⟩:=AE h
    refine AK.viewQ (AK.view [(20000601,none),(70000602,none),(70000802,some 65002002)] AM (BC.l0.w.w ((⟨0,r1,[]⟩:AS).Edges,(((⟨0,r1,[]⟩:AS).Edges).length:Int),0,x.1,(⟨0,[],[]⟩:AS),(⟨e10.Kind,(⟨0,r1,[]⟩:AS).Edges,(⟨0,r1,[]⟩:AS).Preds⟩:AS)) _ h29 _ _ _ ?_))
    intro s' hs';subst hs'
    try simp -implicitDefEqProofs only[go_sem, *, -h]
    injection h with h;subst h
    exact AM
   ·try simp -implicitDefEqProofs only[go_sem, *, -h]
    revert h;refine itE (fun h30 h=>?_) fun h30 h=>?_
    ·try simp -implicitDefEqProofs only[go_sem, *, -h]
     obtain⟨r31,h32,h⟩:=AE h
     have hw:=Ae.w.w (x.2.1,x.2.2,(⟨0,r1,[]⟩:AS),x.1) _ h32
     refine .vars [(65002002,some 65002002)] [(3000000,4),(3000001,5),(3000002,8),(3000003,3)] _ _ _ _ hw AM (by rfl) (by rfl) (by rfl) (by rfl) AM AM AM ?_
     clear hw
     try simp -implicitDefEqProofs only[go_sem, *, -h]
     revert h;refine itE (fun h33 h=>?_) fun h33 h=>?_
     ·try simp -implicitDefEqProofs only[go_sem, *, -h]
      obtain⟨e34,h35,h⟩:=AE h
      try simp -implicitDefEqProofs only[go_sem, *, -h]
      obtain⟨e36,h37,h⟩:=AE h;replace h37:=Dz h37;obtain⟨h37',h37⟩:=h37
      try simp -implicitDefEqProofs only[go_sem, *, -h]
      obtain⟨o38,h39,h⟩:=AE h
      refine AK.viewQ (AK.view [(20000601,none),(70000602,none),(70000802,some 65002002)] AM (BC.l0.w.w ((⟨0,r1,[]⟩:AS).Edges,(((⟨0,r1,[]⟩:AS).Edges).length:Int),0,x.1,(⟨0,[],[]⟩:AS),(⟨e36.Kind,(⟨0,r1,[]⟩:AS).Edges,(⟨0,r1,[]⟩:AS).Preds⟩:AS)) _ h39 _ _ _ ?_))
      intro s' hs';subst hs'
      try simp -implicitDefEqProofs only[go_sem, *, -h]
      injection h with h;subst h
      exact AM
     ·try simp -implicitDefEqProofs only[go_sem, *, -h]
      injection h with h;subst h
      exact AM
    ·try simp -implicitDefEqProofs only[go_sem, *, -h]
     injection h with h;subst h
     exact AM⟩
end
end
section
theorem AJK:okF Tryz.f102=true:=by kernel_rfl
def CY.l0 (x:List AD × AC × AC × List Int × Int):Option (List Int) :=
 if(decide (x.2.2.2.2<(x.1.length:Int)))=true then
  (AU x.1 x.2.2.2.2)>>=fun (e2:AD) =>
  Bo (e2.Uses,(x.2.1|||x.2.2.1))>>=fun r4 =>
  if r4=true then
   Bo (e2.Uses,x.2.1)>>=fun r7 =>
   if r7=true then
    CY.l0 (x.1,x.2.1,x.2.2.1,x.2.2.2.1,(w64 (x.2.2.2.2+1)))
   else
    Bo (e2.Uses,x.2.2.1)>>=fun r10 =>
    if r10=true then
     CY.l0 (x.1,x.2.1,x.2.2.1,x.2.2.2.1,(w64 (x.2.2.2.2+1)))
    else
     (room 8 x.2.2.2.1 ([x.2.2.2.2]))>>=fun (z13:List Int) =>
     CY.l0 (x.1,x.2.1,x.2.2.1,z13,(w64 (x.2.2.2.2+1)))
  else
   CY.l0 (x.1,x.2.1,x.2.2.1,x.2.2.2.1,(w64 (x.2.2.2.2+1)))
 else
  some x.2.2.2.1
 partial_fixpoint
theorem CY.l0.ws:PC CY.l0 (fun x o=>∀ lo c (Q:EP) (hb:∀ s:List Int,o=s→Q (.exit 0) ⟨[(7,.own 100700 1 (s.map AV.i64))],[]⟩),AK Tryz.prog 102 lo c 0 (VQ Q) ⟨[(0,.v (.slice .foreign (x.1.map AD.av))),(1,.v (.w x.2.1)),(2,.v (.w x.2.2.1)),(7,.own 100700 1 (x.2.2.2.1.map AV.i64)),(8,.v (.i64 x.2.2.2.2))],[]⟩):=by
 refine CY.l0.partial_correctness _ ?_
 ·intro Tm SM x o h
  have AGp:AH Tm _:=⟨SM⟩
  intro lo c Q hb
  refine AK.step mix AEU (by kernel_rfl) ?_
  simp -implicitDefEqProofs only[go_sem,Tryz.f102]
  exact AR
instance CY.l0.w:type_of% (AH.mk CY.l0.ws):=⟨CY.l0.ws⟩
def CY (x:List AD × AC × AC):Option (List Int) :=
 CY.l0 (x.1,x.2.1,x.2.2,([]:List Int),0)>>=fun (o15:List Int) =>
 some o15
instance CY.w:AH CY (fun x r=>Fn Tryz.prog 102 [.slice .foreign (x.1.map AD.av),.w x.2.1,.w x.2.2] (.slice .foreign (r.map AV.i64))):=⟨by
 intro x r h
 rw[CY] at h
 try dsimp only
 refine Fn.of_lc mix AEU AJK (by rfl) (flC (AT _ AD.flat _) (flC (.atom _) (flC (.atom _) (flN)))) (AT _ (fun _=>.atom _) _) ?_
 simp -implicitDefEqProofs only[go_sem,Tryz.f102]
 exact AR⟩
end
section
theorem AIT:okF Tryz.f103=true:=by kernel_rfl
def GK (x:AD × AC × AC):Option (Bool) :=
 Bo (x.1.Left,x.2.1)>>=fun r1 =>
 if r1=true then
  Bo (x.1.Right,x.2.2)>>=fun r4 =>
  some r4
 else
  some false
instance GK.w:AH GK (fun x r=>Fn Tryz.prog 103 [.agg (AD.C x.1),.w x.2.1,.w x.2.2] (.bool r)):=⟨by
 intro x r h
 rw[GK] at h
 try dsimp only
 refine Fn.of_lc mix ALA AIT (by rfl) (flC (AD.flatC _) (flC (.atom _) (flC (.atom _) (flN)))) (.atom _) ?_
 simp -implicitDefEqProofs only[go_sem,Tryz.f103]
 exact AR⟩
end
section
theorem AL9:okF Tryz.f63=true:=by kernel_rfl
def CQ.l0 (x:List AD × AC × AC × List Int × Int × Al × Al):Option (Lp (Al × Al) (Al × Bool)) :=
 if(decide (x.2.2.2.2.1<(x.2.2.2.1.length:Int)))=true then
  (AU x.2.2.2.1 x.2.2.2.2.1)>>=fun (e10:Int) =>
  (AU x.1 e10)>>=fun (e12:AD) =>
  if(e12.Kind != 1)=true then
   if(decide ((x.2.2.2.1.length:Int) > 1))=true then
    some (.ret ((⟨0,[],[]⟩:Al),false))
   else
    if(decide (e12.Kind<2))=true then
     some (.ret ((⟨0,[],[]⟩:Al),false))
    else
     if(decide (e12.Kind > 4))=true then
      some (.ret ((⟨0,[],[]⟩:Al),false))
     else
      GK (e12,x.2.1,x.2.2.1)>>=fun r18 =>
      if r18=true then
       (room 128 x.2.2.2.2.2.2.Preds e12.Preds)>>=fun (z22:List AB) =>
       CQ.l0 (x.1,x.2.1,x.2.2.1,x.2.2.2.1,(w64 (x.2.2.2.2.1+1)),x.2.2.2.2.2.1,(⟨x.2.2.2.2.2.2.Kind,x.2.2.2.2.2.2.Edges,z22⟩:Al))
      else
       some (.ret ((⟨0,[],[]⟩:Al),false))
  else
   GK (e12,x.2.1,x.2.2.1)>>=fun r25 =>
   if r25=true then
    (room 128 x.2.2.2.2.2.2.Preds e12.Preds)>>=fun (z28:List AB) =>
    CQ.l0 (x.1,x.2.1,x.2.2.1,x.2.2.2.1,(w64 (x.2.2.2.2.1+1)),x.2.2.2.2.2.1,(⟨x.2.2.2.2.2.2.Kind,x.2.2.2.2.2.2.Edges,z28⟩:Al))
   else
    GK (e12,x.2.2.1,x.2.1)>>=fun r30 =>
    if r30=true then
     (room 128 x.2.2.2.2.2.2.Preds e12.Preds)>>=fun (z33:List AB) =>
     CQ.l0 (x.1,x.2.1,x.2.2.1,x.2.2.2.1,(w64 (x.2.2.2.2.1+1)),x.2.2.2.2.2.1,(⟨x.2.2.2.2.2.2.Kind,x.2.2.2.2.2.2.Edges,z33⟩:Al))
    else
     some (.ret ((⟨0,[],[]⟩:Al),false))
 else
  some (.brk (x.2.2.2.2.2.1,x.2.2.2.2.2.2))
 partial_fixpoint
theorem CQ.l0.ws:PC CQ.l0 (fun x o=>∀ lo c (Q:EP) (hb:∀ s:Al × Al,o=Lp.brk s→Q (.exit 0) ⟨[(6,.lref 6 0),(9,.lref 9 0)],[(6,[.v (.i64 s.1.Kind),.own 20000601 1 (s.1.Edges.map AV.i64),.own 20000602 14 (s.1.Preds.map AB.av)]),(9,[.v (.i64 s.2.Kind),.v (.slice .foreign (s.2.Edges.map AV.i64)),.own 20000902 14 (s.2.Preds.map AB.av)])]⟩) (hr:∀ (r:Al × Bool) (L:AO),o=.ret r→DV Tryz.prog [.cell 6 72,.tmp 7] (.tuple [.agg (Al.C r.1),.bool r.2]) (fun _=>True) .ret L→Q .ret L),AK Tryz.prog 63 lo c 0 (VQ Q) ⟨[(0,.v (.slice .foreign (x.1.map AD.av))),(1,.v (.w x.2.1)),(2,.v (.w x.2.2.1)),(6,.lref 6 0),(8,.v (.slice .foreign (x.2.2.2.1.map AV.i64))),(9,.lref 9 0),(10,.v (.i64 x.2.2.2.2.1))],[(6,[.v (.i64 x.2.2.2.2.2.1.Kind),.own 20000601 1 (x.2.2.2.2.2.1.Edges.map AV.i64),.own 20000602 14 (x.2.2.2.2.2.1.Preds.map AB.av)]),(9,[.v (.i64 x.2.2.2.2.2.2.Kind),.v (.slice .foreign (x.2.2.2.2.2.2.Edges.map AV.i64)),.own 20000902 14 (x.2.2.2.2.2.2.Preds.map AB.av)])]⟩):=by
 refine CQ.l0.partial_correctness _ ?_
 ·intro Sc Qf x o h
  have AFt:AH Sc _:=⟨Qf⟩
  intro lo c Q hb hr
  refine AK.step mix AHx (by kernel_rfl) ?_
  simp -implicitDefEqProofs only[go_sem,Tryz.f63]
  exact AR
instance CQ.l0.w:type_of% (AH.mk CQ.l0.ws):=⟨CQ.l0.ws⟩
def CQ (x:List AD × AC × AC):Option (Al × Bool) :=
 CY (x.1,x.2.1,x.2.2)>>=fun r1 =>
 if((r1.length:Int) == 0)=true then
  some ((⟨0,[],[]⟩:Al),false)
 else
  if((x.2.1&&&x.2.2) != 0#64)=true then
   some ((⟨0,[],[]⟩:Al),false)
  else
   (r1[0]?)>>=fun (e5:Int) =>
   (AU x.1 e5)>>=fun (e7:AD) =>
   CQ.l0 (x.1,x.2.1,x.2.2,r1,0,(⟨0,[],[]⟩:Al),(⟨e7.Kind,r1,[]⟩:Al))>>=fun (o35:Lp (Al × Al) (Al × Bool))=>match o35 with
   | .brk s38 =>
    some (s38.2,true)
   | .ret r37 =>
    some r37
instance CQ.w:AH CQ (fun x r=>Fn Tryz.prog 63 [.slice .foreign (x.1.map AD.av),.w x.2.1,.w x.2.2] (.tuple [.agg (Al.C r.1),.bool r.2])):=⟨by
 intro x r h
 rw[CQ] at h
 try dsimp only
 refine Fn.of_lc mix AHx AL9 (by rfl) (flC (AT _ AD.flat _) (flC (.atom _) (flC (.atom _) (flN)))) (.tuple _ (flC (Al.flatC _) (flC (.atom _) (flN)))) ?_
 simp -implicitDefEqProofs only[go_sem,Tryz.f63]
 exact AR⟩
end
section
theorem UU (a b:AC):Dx (a,b)=some (inS a b):=by unfold Dx;rfl
def ACB (a b:AC) (e:AD):Bool:=inS e.Uses (a|||b)&&(!inS e.Uses a&&!inS e.Uses b)
def EW (a b:AC):Nat→List AD→List Int
 | _,[]=>[]
 | k,e :: l=>if ACB a b e=true then(k:Int) :: EW a b (k+1) l else EW a b (k+1) l
def Bl (es:List AD) (a b:AC):List Int:=EW a b 0 es
theorem Sy (a b:AC):∀ (l:List AD) (k:Nat),(EW a b k l).length≤l.length:=by
 intro l
 induction l with
 | nil=>intro k;exact Nat.le_refl _
 | cons e l ih =>
  intro k
  rw[EW]
  have:=ih (k+1)
  split <;> simp only[List.length_cons] <;> omega
theorem ABH (a b:AC) (es:List AD):∀ (post pre:List AD),pre++post=es→∀ i∈EW a b pre.length post,∃ e,AU es i=some e∧e∈post:=by
 intro post
 induction post with
 | nil=>intro pre _ i hi;cases hi
 | cons e l ih =>
  intro pre he i hi
  have hrec:i∈EW a b (pre.length+1) l→∃ e',AU es i=some e'∧e'∈e :: l:=fun h=>by
   obtain⟨e',h1,h2⟩:=ih (pre++[e]) (by rw[List.append_assoc];exact he) i (by rw[CX];exact h)
   exact⟨e',h1,List.mem_cons_of_mem _ h2⟩
  rw[EW] at hi
  split at hi
  ·rcases List.mem_cons.1 hi with rfl | hi
   ·exact⟨e,by rw[← he,FB],List.mem_cons_self⟩
   ·exact hrec hi
  ·exact hrec hi
theorem Ym (a b:AC):∀ (post pre:List AD) (acc:List Int),acc.length≤pre.length→pre.length+post.length≤1000000→CT.l0 (a,b,acc,pre++post,((pre++post).length:Int),(pre.length:Int))=some (acc++EW a b pre.length post):=by
 intro post
 induction post with
 | nil=>intro pre acc _ _;rw[List.append_nil,CT.l0,if_neg (dge (by dsimp only;omega)),EW,List.append_nil]
 | cons e l ih =>
  intro pre acc h1 h2
  simp only[List.length_cons] at h2
  have hlen:(pre++e :: l).length=pre.length+(l.length+1):=by rw[List.length_append];rfl
  have hst:∀ acc':List Int,acc'.length≤pre.length+1→CT.l0 (a,b,acc',pre++e :: l,((pre++e :: l).length:Int),((pre.length+1:Nat):Int))=some (acc'++EW a b (pre.length+1) l):=fun acc' h=>by
   have:=ih (pre++[e]) acc' (by rw[CX];exact h) (by rw[CX];omega)
   rw[List.append_assoc,CX] at this
   exact this
  rw[CT.l0,if_pos (dlt (by dsimp only;omega))]
  dsimp only
  rw[FB,Aa (by omega),EW]
  simp -implicitDefEqProofs only[Option.bind_eq_bind,Option.bind_some,UU]
  unfold ACB
  cases c1:inS e.Uses (a|||b)
  ·simp only[Bool.false_eq_true,if_false,Bool.false_and]
   exact hst acc (by omega)
  ·cases c2:inS e.Uses a
   ·cases c3:inS e.Uses b
    ·simp only[Bool.false_eq_true,if_false,if_true,Bool.not_false,Bool.and_self]
     rw[Bt (by simp only[List.length_cons,List.length_nil];omega)]
     simp -implicitDefEqProofs only[Option.bind_some]
     rw[hst _ (by rw[CX];omega),List.append_assoc];rfl
    ·simp only[Bool.false_eq_true,if_false,if_true,Bool.not_false,Bool.not_true,Bool.and_false]
     exact hst acc (by omega)
   ·simp only[Bool.false_eq_true,if_false,if_true,Bool.not_true,Bool.false_and,Bool.and_false]
    exact hst acc (by omega)
theorem AAM (es:List AD) (a b:AC) (hl:es.length≤1000000):CT (es,a,b)=some (Bl es a b):=by
 have:=Ym a b es [] [] (Nat.le_refl _) (by simpa using hl)
 simp only[List.nil_append,List.length_nil] at this
 unfold CT
 dsimp only
 rw[show ((0:Nat):Int)=0 from rfl] at this
 rw[this];rfl
theorem Yt (a b:AC):∀ (post pre:List AD) (acc:List Int),acc.length≤pre.length→pre.length+post.length≤1000000→CY.l0 (pre++post,a,b,acc,(pre.length:Int))=some (acc++EW a b pre.length post):=by
 intro post
 induction post with
 | nil=>intro pre acc _ _;rw[List.append_nil,CY.l0,if_neg (dge (by dsimp only;omega)),EW,List.append_nil]
 | cons e l ih =>
  intro pre acc h1 h2
  simp only[List.length_cons] at h2
  have hlen:(pre++e :: l).length=pre.length+(l.length+1):=by rw[List.length_append];rfl
  have hst:∀ acc':List Int,acc'.length≤pre.length+1→CY.l0 (pre++e :: l,a,b,acc',((pre.length+1:Nat):Int))=some (acc'++EW a b (pre.length+1) l):=fun acc' h=>by
   have:=ih (pre++[e]) acc' (by rw[CX];exact h) (by rw[CX];omega)
   rw[List.append_assoc,CX] at this
   exact this
  rw[CY.l0,if_pos (dlt (by dsimp only;omega))]
  dsimp only
  rw[FB,Aa (by omega),EW]
  simp -implicitDefEqProofs only[Option.bind_eq_bind,Option.bind_some,Jl]
  unfold ACB
  cases c1:inS e.Uses (a|||b)
  ·simp only[Bool.false_eq_true,if_false,Bool.false_and]
   exact hst acc (by omega)
  ·cases c2:inS e.Uses a
   ·cases c3:inS e.Uses b
    ·simp only[Bool.false_eq_true,if_false,if_true,Bool.not_false,Bool.and_self]
     rw[Bt (by simp only[List.length_cons,List.length_nil];omega)]
     simp -implicitDefEqProofs only[Option.bind_some]
     rw[hst _ (by rw[CX];omega),List.append_assoc];rfl
    ·simp only[Bool.false_eq_true,if_false,if_true,Bool.not_false,Bool.not_true,Bool.and_false]
     exact hst acc (by omega)
   ·simp only[Bool.false_eq_true,if_false,if_true,Bool.not_true,Bool.false_and,Bool.and_false]
    exact hst acc (by omega)
theorem AAS (es:List AD) (a b:AC) (hl:es.length≤1000000):CY (es,a,b)=some (Bl es a b):=by
 have:=Yt a b es [] [] (Nat.le_refl _) (by simpa using hl)
 simp only[List.nil_append,List.length_nil] at this
 unfold CY
 dsimp only
 rw[show ((0:Nat):Int)=0 from rfl] at this
 rw[this];rfl
def BG (es:List AD) (i:Int):AD:=match AU es i with
 | some e=>e
 | none=>⟨0,[],0#64,0#64,0#64⟩
theorem Of {es:List AD} {a b:AC}:∀ i∈Bl es a b,AU es i=some (BG es i)∧BG es i∈es:=by
 intro i hi
 obtain⟨e,h1,h2⟩:=ABH a b es es [] rfl i hi
 have:BG es i=e:=by unfold BG;rw[h1]
 rw[this];exact⟨h1,h2⟩
def Jv (a b:AC) (e:AD):Bool:=inS e.Left a&&inS e.Right b
def ON (a b:AC) (e:AD):Bool:=inS e.Right a&&inS e.Left b
def FM (a b:AC) (e:AD):Bool:=e.Kind == 1&&(Jv a b e || ON a b e)
def GN (a b:AC) (e:AD):Bool:=decide (e.Kind > 1)&&(decide (e.Kind≤4)&&(!(e.Kind == 1)&&Jv a b e))
theorem AAC (e:AD) (a b:AC):FH (e,a,b)=some ⟨e.Kind == 1,Jv a b e,ON a b e⟩:=by
 unfold FH Jv ON
 simp -implicitDefEqProofs only[Option.bind_eq_bind,Option.bind_some,UU]
 cases inS e.Left a <;> cases inS e.Right a <;> rfl
theorem AGc (e:AD) (a b:AC):Fu (e,a,b)=some (FM a b e):=by
 unfold Fu FM
 simp -implicitDefEqProofs only[Option.bind_eq_bind,Option.bind_some,AAC]
 cases e.Kind == 1 <;> cases Jv a b e <;> rfl
theorem AGr (e:AD) (a b:AC):Fp (e,a,b)=some (GN a b e):=by
 unfold Fp GN
 simp -implicitDefEqProofs only[Option.bind_eq_bind,Option.bind_some,AAC]
 cases decide (e.Kind > 1) <;> cases decide (e.Kind≤4) <;> cases e.Kind == 1 <;> cases Jv a b e <;> rfl
section
variable {es:List AD} {a b:AC} {is:List Int}
theorem AJe (cut:AS) (hg:∀ i∈is,AU es i=some (BG es i)) (hl:is.length≤1000000):∀ (post pre:List Int),pre++post=is→Af.l0 (is,(is.length:Int),(pre.length:Int),a,b,cut,es)=some (if post.all (fun i=>FM a b (BG es i))=true then .brk () else .ret false):=by
 intro post
 induction post with
 | nil=>intro pre he;rw[List.append_nil] at he;subst he;rw[Af.l0,if_neg (dge (by dsimp only;omega))];rfl
 | cons i l ih =>
  intro pre he
  have hlen:pre.length+(l.length+1)=is.length:=by rw[← he,List.length_append];rfl
  have h1:=ih (pre++[i]) (by rw[List.append_assoc];exact he)
  rw[CX] at h1
  rw[Af.l0,if_pos (dlt (by dsimp only;omega))]
  dsimp only
  have hgi:AU is (pre.length:Int)=some i:=by rw[← he,FB]
  rw[hgi]
  simp -implicitDefEqProofs only[Option.bind_eq_bind,Option.bind_some]
  rw[hg i (by rw[← he];simp)]
  simp -implicitDefEqProofs only[Option.bind_some,AGc]
  rw[List.all_cons]
  cases FM a b (BG es i)
  ·rfl
  ·rw[if_pos rfl,Aa (by omega),h1,Bool.true_and]
theorem AIr (cut:AS) (hg:∀ i∈is,AU es i=some (BG es i)) (hl:is.length≤1000000):∀ (post pre:List Int),pre++post=is→Ae.l0 (is,(is.length:Int),(pre.length:Int),a,b,cut,es)=some (if post.all (fun i=>GN a b (BG es i))=true then .brk () else .ret false):=by
 intro post
 induction post with
 | nil=>intro pre he;rw[List.append_nil] at he;subst he;rw[Ae.l0,if_neg (dge (by dsimp only;omega))];rfl
 | cons i l ih =>
  intro pre he
  have hlen:pre.length+(l.length+1)=is.length:=by rw[← he,List.length_append];rfl
  have h1:=ih (pre++[i]) (by rw[List.append_assoc];exact he)
  rw[CX] at h1
  rw[Ae.l0,if_pos (dlt (by dsimp only;omega))]
  dsimp only
  have hgi:AU is (pre.length:Int)=some i:=by rw[← he,FB]
  rw[hgi]
  simp -implicitDefEqProofs only[Option.bind_eq_bind,Option.bind_some]
  rw[hg i (by rw[← he];simp)]
  simp -implicitDefEqProofs only[Option.bind_some,AGr]
  rw[List.all_cons]
  cases GN a b (BG es i)
  ·rfl
  ·rw[if_pos rfl,Aa (by omega),h1,Bool.true_and]
theorem AJu (cut:AS) (hi:cut.Edges=is) (hg:∀ i∈is,AU es i=some (BG es i)) (hl:is.length≤1000000):Af (a,b,cut,es)=some (is.all fun i=>FM a b (BG es i)):=by
 have h:=AJe (a:=a) (b:=b) cut hg hl is [] rfl
 rw[List.length_nil,show ((0:Nat):Int)=0 from rfl] at h
 unfold Af
 dsimp only
 rw[hi,h]
 cases is.all fun i=>FM a b (BG es i) <;> rfl
theorem AIM (cut:AS) (hi:cut.Edges=is) (hg:∀ i∈is,AU es i=some (BG es i)) (hl:is.length≤1000000):Ae (a,b,cut,es)=some (is.all fun i=>GN a b (BG es i)):=by
 have h:=AIr (a:=a) (b:=b) cut hg hl is [] rfl
 rw[List.length_nil,show ((0:Nat):Int)=0 from rfl] at h
 unfold Ae
 dsimp only
 rw[hi,h]
 cases is.all fun i=>GN a b (BG es i) <;> rfl
theorem AJi (r:List Int) (n k:Int) (c0:AS) (ps:List AB) (hs:∀ p∈ps,p.size≤1000000) (hp:ps.length≤1000000):∀ (post pre:List AB) (cut:AS),pre++post=ps→cut.Preds.length+post.length≤1000000000000 →
  BC.l1 (r,n,k,ps,(ps.length:Int),(pre.length:Int),es,c0,cut)=some ⟨cut.Kind,cut.Edges,cut.Preds++post⟩:=by
 intro post
 induction post with
 | nil=>intro pre cut he _;rw[List.append_nil] at he;subst he;rw[BC.l1,if_neg (dge (by dsimp only;omega)),List.append_nil]
 | cons p l ih =>
  intro pre cut he hb
  have hlen:pre.length+(l.length+1)=ps.length:=by rw[← he,List.length_append];rfl
  rw[BC.l1,if_pos (dlt (by dsimp only;omega))]
  dsimp only
  have hgi:AU ps (pre.length:Int)=some p:=by rw[← he,FB]
  rw[hgi]
  simp -implicitDefEqProofs only[Option.bind_eq_bind,Option.bind_some]
  rw[Mv p (hs p (by rw[← he];simp))]
  simp -implicitDefEqProofs only[Option.bind_some]
  rw[List.length_cons] at hb
  rw[Bt (by simp only[List.length_cons,List.length_nil];omega)]
  simp -implicitDefEqProofs only[Option.bind_some]
  rw[FB]
  simp -implicitDefEqProofs only[Option.bind_some]
  have hset:∀ z:AB,(cut.Preds++[z]).set ((cut.Preds.length:Int)).toNat p=cut.Preds++[p]:=fun z=>by
   rw[Int.toNat_natCast];exact AIq cut.Preds z p []
  rw[hset,Aa (by omega)]
  have:=ih (pre++[p]) ⟨cut.Kind,cut.Edges,cut.Preds++[p]⟩ (by rw[List.append_assoc];exact he) (by rw[CX];omega)
  rw[CX,List.append_assoc] at this
  exact this
def DF (es:List AD) (is:List Int):List AB:=is.flatMap fun i=>(BG es i).Preds
theorem AJJ (c0:AS) (hg:∀ i∈is,AU es i=some (BG es i)) (hE:∀ i∈is,(BG es i).Preds.length≤1000000∧∀ p∈(BG es i).Preds,p.size≤1000000) (hl:is.length≤101000):∀ (post pre:List Int) (cut:AS),pre++post=is→cut.Preds.length≤pre.length * 1000000 →
  BC.l0 (is,(is.length:Int),(pre.length:Int),es,c0,cut)=some ⟨cut.Kind,cut.Edges,cut.Preds++DF es post⟩:=by
 intro post
 induction post with
 | nil=>intro pre cut he _;rw[List.append_nil] at he;subst he;rw[BC.l0,if_neg (dge (by dsimp only;omega))];simp[DF]
 | cons i l ih =>
  intro pre cut he hb
  have hlen:pre.length+(l.length+1)=is.length:=by rw[← he,List.length_append];rfl
  have hi:i∈is:=by rw[← he];simp
  obtain⟨h1,h2⟩:=hE i hi
  rw[BC.l0,if_pos (dlt (by dsimp only;omega))]
  dsimp only
  have hgi:AU is (pre.length:Int)=some i:=by rw[← he,FB]
  rw[hgi]
  simp -implicitDefEqProofs only[Option.bind_eq_bind,Option.bind_some]
  rw[hg i hi]
  simp -implicitDefEqProofs only[Option.bind_some]
  have hc:=AJi (es:=es) is (is.length:Int) (pre.length:Int) c0 (BG es i).Preds h2 h1 (BG es i).Preds [] cut rfl (by omega)
  rw[List.length_nil,show ((0:Nat):Int)=0 from rfl] at hc
  rw[hc]
  simp -implicitDefEqProofs only[Option.bind_some]
  rw[Aa (by omega)]
  have:=ih (pre++[i]) ⟨cut.Kind,cut.Edges,cut.Preds++(BG es i).Preds⟩ (by rw[List.append_assoc];exact he) (by rw[CX,List.length_append];omega)
  rw[CX,List.append_assoc] at this
  exact this
end
def Fk (es:List AD) (a b:AC):Bool :=
 decide (Bl es a b≠[])&&(a&&&b == 0#64)&&((Bl es a b).all (fun i=>FM a b (BG es i)) || (decide ((Bl es a b).length=1)&&(Bl es a b).all fun i=>GN a b (BG es i)))
def MD (es:List AD) (is:List Int):Int:=match is with
 | i :: _=>(BG es i).Kind
 | []=>0
def Nv (es:List AD) (a b:AC):AS:=⟨MD es (Bl es a b),Bl es a b,DF es (Bl es a b)⟩
structure JM (es:List AD):Prop where
 len:es.length≤101000
 ps:∀ e∈es,e.Preds.length≤1000000∧∀ p∈e.Preds,p.size≤1000000
theorem Xt {es:List AD} (w:JM es) (a b:AC):BC (es,a,b)=some (if Fk es a b=true then(Nv es a b,true) else(⟨0,[],[]⟩,false)):=by
 have hn:=Sy a b es 0
 have wl:=w.len
 have hl:(Bl es a b).length≤101000:=by unfold Bl;omega
 have hg:∀ i∈Bl es a b,AU es i=some (BG es i):=fun i hi=>(Of i hi).1
 have hE:∀ i∈Bl es a b,(BG es i).Preds.length≤1000000∧∀ p∈(BG es i).Preds,p.size≤1000000:=fun i hi=>w.ps _ (Of i hi).2
 unfold BC Fk
 dsimp only
 rw[AAM es a b (by omega)]
 simp -implicitDefEqProofs only[Option.bind_eq_bind,Option.bind_some]
 cases hs:Bl es a b with
 | nil=>rw[if_pos (by simp)];simp
 | cons i l =>
  rw[if_neg (by simp;omega)]
  by_cases hab:a&&&b=0#64
  ·rw[if_neg (by simp[hab])]
   rw[← hs]
   rw[AJu (is:=Bl es a b) ⟨0,Bl es a b,[]⟩ rfl hg (by omega)]
   simp -implicitDefEqProofs only[Option.bind_some]
   have hfin:(((Bl es a b)[0]?).bind fun e8=>(AU es e8).bind fun e10=>(BC.l0 (Bl es a b,((Bl es a b).length:Int),0,es,(⟨0,[],[]⟩:AS),(⟨e10.Kind,Bl es a b,[]⟩:AS))).bind fun o28=>some (o28,true))=some (Nv es a b,true):=by
    have h0:(Bl es a b)[0]?=some i:=by rw[hs];rfl
    rw[h0]
    simp -implicitDefEqProofs only[Option.bind_some]
    rw[hg i (by rw[hs];exact List.mem_cons_self)]
    simp -implicitDefEqProofs only[Option.bind_some]
    have:=AJJ (es:=es) (⟨0,[],[]⟩:AS) hg hE hl (Bl es a b) [] ⟨(BG es i).Kind,Bl es a b,[]⟩ rfl (Nat.zero_le _)
    rw[List.length_nil,show ((0:Nat):Int)=0 from rfl] at this
    rw[this]
    simp -implicitDefEqProofs only[Option.bind_some,List.nil_append]
    unfold Nv MD
    rw[hs]
   have hne:decide (Bl es a b≠[])=true:=by rw[hs];simp
   have hab':(a&&&b == 0#64)=true:=by simp[hab]
   rw[hne,hab',Bool.true_and,Bool.true_and]
   cases hall:(Bl es a b).all fun i=>FM a b (BG es i)
   ·simp only[Bool.false_eq_true,if_false,Bool.false_or]
    by_cases h1:(Bl es a b).length=1
    ·rw[if_pos (by simp[h1]),AIM (is:=Bl es a b) ⟨0,Bl es a b,[]⟩ rfl hg (by omega)]
     simp -implicitDefEqProofs only[Option.bind_some]
     rw[decide_eq_true h1,Bool.true_and]
     cases hall3:(Bl es a b).all fun i=>GN a b (BG es i)
     ·rfl
     ·rw[if_pos rfl,if_pos rfl];exact hfin
    ·rw[if_neg (by simp;omega),decide_eq_false h1,Bool.false_and];rfl
   ·rw[if_pos rfl,Bool.true_or,if_pos rfl];exact hfin
  ·rw[if_pos (by simpa using hab)]
   have:(a&&&b == 0#64)=false:=by simpa using hab
   rw[this,Bool.and_false,Bool.false_and];rfl
def Iu (a b:AC) (one:Bool) (e:AD):Bool:=FM a b e || (one&&GN a b e)
theorem AIj (e:AD) (a b:AC):GK (e,a,b)=some (Jv a b e):=by
 unfold GK Jv
 simp -implicitDefEqProofs only[Option.bind_eq_bind,Option.bind_some,Jl]
 cases inS e.Left a <;> rfl
theorem AFS (e:AD) (a b:AC):Jv b a e=ON a b e:=by unfold Jv ON;rw[Bool.and_comm]
theorem ACG {es:List AD} {a b:AC} {is:List Int} (c0:Al) (hg:∀ i∈is,AU es i=some (BG es i)) (hE:∀ i∈is,(BG es i).Preds.length≤1000000∧∀ p∈(BG es i).Preds,p.size≤1000000) (hl:is.length≤101000):∀ (post pre:List Int) (cut:Al),pre++post=is→cut.Preds.length≤pre.length * 1000000 →
  CQ.l0 (es,a,b,is,(pre.length:Int),c0,cut)=some (if post.all (fun i=>Iu a b (decide (is.length≤1)) (BG es i))=true then .brk (c0,⟨cut.Kind,cut.Edges,cut.Preds++DF es post⟩) else .ret (⟨0,[],[]⟩,false)):=by
 intro post
 induction post with
 | nil=>intro pre cut he _;rw[List.append_nil] at he;subst he;rw[CQ.l0,if_neg (dge (by dsimp only;omega))];simp[DF]
 | cons i l ih =>
  intro pre cut he hb
  have hlen:pre.length+(l.length+1)=is.length:=by rw[← he,List.length_append];rfl
  have hi:i∈is:=by rw[← he];simp
  obtain⟨h1,h2⟩:=hE i hi
  rw[CQ.l0,if_pos (dlt (by dsimp only;omega))]
  dsimp only
  have hgi:AU is (pre.length:Int)=some i:=by rw[← he,FB]
  rw[hgi]
  simp -implicitDefEqProofs only[Option.bind_eq_bind,Option.bind_some]
  rw[hg i hi]
  simp -implicitDefEqProofs only[Option.bind_some,AIj]
  rw[Bt (by omega),Aa (by omega)]
  simp -implicitDefEqProofs only[Option.bind_some]
  have hnext:=ih (pre++[i]) ⟨cut.Kind,cut.Edges,cut.Preds++(BG es i).Preds⟩ (by rw[List.append_assoc];exact he) (by rw[CX,List.length_append];omega)
  rw[CX] at hnext
  have hp:DF es (i :: l)=(BG es i).Preds++DF es l:=rfl
  rw[List.all_cons,hp,← List.append_assoc]
  have hone:∀ {x:Prop} [Decidable x],Iu a b (decide (is.length≤1)) (BG es i)=true→CQ.l0 (es,a,b,is,((pre.length+1:Nat):Int),c0,⟨cut.Kind,cut.Edges,cut.Preds++(BG es i).Preds⟩)=some (if(Iu a b (decide (is.length≤1)) (BG es i)&&l.all fun i=>Iu a b (decide (is.length≤1)) (BG es i))=true then .brk (c0,⟨cut.Kind,cut.Edges,cut.Preds++(BG es i).Preds++DF es l⟩) else .ret (⟨0,[],[]⟩,false)):=fun {x} _ h=>by
   rw[h,Bool.true_and];exact hnext
  have hno:Iu a b (decide (is.length≤1)) (BG es i)=false→(some (.ret (⟨0,[],[]⟩,false)):Option (Lp (Al × Al) (Al × Bool)))=some (if(Iu a b (decide (is.length≤1)) (BG es i)&&l.all fun i=>Iu a b (decide (is.length≤1)) (BG es i))=true then .brk (c0,⟨cut.Kind,cut.Edges,cut.Preds++(BG es i).Preds++DF es l⟩) else .ret (⟨0,[],[]⟩,false)):=fun h=>by
   rw[h,Bool.false_and];rfl
  by_cases hk:(BG es i).Kind=1
  ·have hk':((BG es i).Kind == 1)=true:=by simpa using hk
   rw[if_neg (by simp[hk])]
   cases hf:Jv a b (BG es i)
   ·rw[if_neg (by simp),AFS]
    cases ht:ON a b (BG es i)
    ·rw[if_neg (by simp)]
     exact hno (by unfold Iu FM GN;rw[hf,ht,hk'];simp)
    ·rw[if_pos rfl]
     exact hone (x:=True) (by unfold Iu FM;rw[hf,ht,hk'];rfl)
   ·rw[if_pos rfl]
    exact hone (x:=True) (by unfold Iu FM;rw[hf,hk'];rfl)
  ·have hk':((BG es i).Kind == 1)=false:=by simpa using hk
   rw[if_pos (by simpa using hk)]
   by_cases h3:is.length≤1
   ·rw[if_neg (by simp;omega)]
    by_cases h4:(BG es i).Kind<2
    ·rw[if_pos (by simpa using h4)]
     exact hno (by
            unfold Iu FM GN;rw[hk'];have:decide ((BG es i).Kind > 1)=false:=by simp;omega
            rw[this];simp)
    ·rw[if_neg (by simpa using h4)]
     by_cases h5:(BG es i).Kind > 4
     ·rw[if_pos (by simpa using h5)]
      exact hno (by
             unfold Iu FM GN;rw[hk'];have:decide ((BG es i).Kind≤4)=false:=by simp;omega
             rw[this];simp)
     ·rw[if_neg (by simpa using h5)]
      have g1:decide ((BG es i).Kind > 1)=true:=by simp;omega
      have g2:decide ((BG es i).Kind≤4)=true:=by simp;omega
      cases hf:Jv a b (BG es i)
      ·rw[if_neg (by simp)]
       exact hno (by unfold Iu FM GN;rw[hf,hk'];simp)
      ·rw[if_pos rfl]
       exact hone (x:=True) (by unfold Iu FM GN;rw[hf,hk',g1,g2,decide_eq_true h3];rfl)
   ·rw[if_pos (by simp;omega)]
    exact hno (by unfold Iu FM;rw[hk',decide_eq_false h3];rfl)
def ZA (es:List AD) (a b:AC):Al:=⟨MD es (Bl es a b),Bl es a b,DF es (Bl es a b)⟩
theorem YT {es:List AD} (w:JM es) (a b:AC):CQ (es,a,b)=some (if Fk es a b=true then(ZA es a b,true) else(⟨0,[],[]⟩,false)):=by
 have hn:=Sy a b es 0
 have wl:=w.len
 have hl:(Bl es a b).length≤101000:=by unfold Bl;omega
 have hg:∀ i∈Bl es a b,AU es i=some (BG es i):=fun i hi=>(Of i hi).1
 have hE:∀ i∈Bl es a b,(BG es i).Preds.length≤1000000∧∀ p∈(BG es i).Preds,p.size≤1000000:=fun i hi=>w.ps _ (Of i hi).2
 unfold CQ Fk
 dsimp only
 rw[AAS es a b (by omega)]
 simp -implicitDefEqProofs only[Option.bind_eq_bind,Option.bind_some]
 cases hs:Bl es a b with
 | nil=>rw[if_pos (by simp)];simp
 | cons i l =>
  rw[if_neg (by simp;omega)]
  by_cases hab:a&&&b=0#64
  ·rw[if_neg (by simp[hab])]
   rw[← hs]
   have h0:(Bl es a b)[0]?=some i:=by rw[hs];rfl
   rw[h0]
   simp -implicitDefEqProofs only[Option.bind_some]
   rw[hg i (by rw[hs];exact List.mem_cons_self)]
   simp -implicitDefEqProofs only[Option.bind_some]
   have h1:=ACG (a:=a) (b:=b) (⟨0,[],[]⟩:Al) hg hE hl (Bl es a b) [] ⟨(BG es i).Kind,Bl es a b,[]⟩ rfl (Nat.zero_le _)
   rw[List.length_nil,show ((0:Nat):Int)=0 from rfl] at h1
   rw[h1]
   simp -implicitDefEqProofs only[Option.bind_some,List.nil_append]
   have hne:decide (Bl es a b≠[])=true:=by rw[hs];simp
   have hab':(a&&&b == 0#64)=true:=by simp[hab]
   rw[hne,hab',Bool.true_and,Bool.true_and]
   have hall:((Bl es a b).all fun i=>Iu a b (decide ((Bl es a b).length≤1)) (BG es i))=(((Bl es a b).all fun i=>FM a b (BG es i)) || (decide ((Bl es a b).length=1)&&(Bl es a b).all fun i=>GN a b (BG es i))):=by
    unfold Iu
    by_cases h1:(Bl es a b).length=1
    ·obtain⟨j,hj⟩:=List.length_eq_one_iff.1 h1
     rw[decide_eq_true h1,decide_eq_true (show (Bl es a b).length≤1 by omega),hj]
     simp
    ·have h2:¬ (Bl es a b).length≤1:=by rw[hs] at h1 ⊢;simp at h1 ⊢;omega
     rw[decide_eq_false h1,decide_eq_false h2]
     simp
   rw[hall]
   cases ((Bl es a b).all fun i=>FM a b (BG es i)) || (decide ((Bl es a b).length=1)&&(Bl es a b).all fun i=>GN a b (BG es i))
   ·rfl
   ·rw[if_pos rfl]
    unfold ZA MD
    rw[hs];rfl
  ·rw[if_pos (by simpa using hab)]
   have:(a&&&b == 0#64)=false:=by simpa using hab
   rw[this,Bool.and_false,Bool.false_and];rfl
end
section
theorem ALz:okF Tryz.f80=true:=by kernel_rfl
def IV (x:AC):Option (Int) :=
 BD x>>=fun r1 =>
 if((r1.length:Int) == 0)=true then
  some (-1)
 else
  (r1[0]?)>>=fun (e4:Int) =>
  some e4
instance IV.w:AH IV (fun x r=>Fn Tryz.prog 80 [.w x] (.i64 r)):=⟨by
 intro x r h
 rw[IV] at h
 try dsimp only
 refine Fn.of_lc mix AN9 ALz (by rfl) (flC (.atom _) (flN)) (.atom _) ?_
 simp -implicitDefEqProofs only[go_sem,Tryz.f80]
 exact AR⟩
end
section
theorem ALk:okF Tryz.f40=true:=by kernel_rfl
def Db (x:Int):Option (AA) :=
 some (⟨0,x,[],[],false⟩:AA)
instance Db.w:AH Db (fun x r=>Fn Tryz.prog 40 [.i64 x] (.agg (AA.C r))):=⟨by
 intro x r h
 rw[Db] at h
 try dsimp only
 refine Fn.of_lc mix AM4 ALk (by rfl) (flC (.atom _) (flN)) (AA.flatC _) ?_
 simp -implicitDefEqProofs only[go_sem,Tryz.f40]
 exact AR⟩
end
section
theorem AL0:okF Tryz.f75=true:=by kernel_rfl
def It (x:Al × AA × AA):Option (AA) :=
 some (⟨x.1.Kind,0,[x.2.1,x.2.2],x.1.Preds,false⟩:AA)
instance It.w:AH It (fun x r=>Fn Tryz.prog 75 [.agg (Al.C x.1),.agg (AA.C x.2.1),.agg (AA.C x.2.2)] (.agg (AA.C r))):=⟨by
 intro x r h
 rw[It] at h
 try dsimp only
 refine Fn.of_lc mix ANq AL0 (by rfl) (flC (Al.flatC _) (flC (AA.flatC _) (flC (AA.flatC _) (flN)))) (AA.flatC _) ?_
 simp -implicitDefEqProofs only[go_sem,Tryz.f75]
 exact AR⟩
end
section
@[go_sem] theorem AO8:lrp Tryz.prog 35 8=(12,[]):=by kernel_rfl
@[go_sem] theorem AOW:lrp Tryz.prog 35 20=(12,[]):=by kernel_rfl
theorem AK8:okF Tryz.f35=true:=by kernel_rfl
def As.l2 (x:List AD × AC × List AA × List AC × Int × List AA × List AA × Int × Int × Al):Option (List AA) :=
 if(decide (x.2.2.2.2.2.2.2.2.1<(x.2.2.2.2.2.2.1.length:Int)))=true then
  (AU x.2.2.2.2.2.1 x.2.2.2.2.2.2.2.1)>>=fun (e23:AA) =>
  (AU x.2.2.2.2.2.2.1 x.2.2.2.2.2.2.2.2.1)>>=fun (e25:AA) =>
  It (x.2.2.2.2.2.2.2.2.2,e23,e25)>>=fun r27 =>
  (room 72 x.2.2.1 ([r27]))>>=fun (z29:List AA) =>
  As.l2 (x.1,x.2.1,z29,x.2.2.2.1,x.2.2.2.2.1,x.2.2.2.2.2.1,x.2.2.2.2.2.2.1,x.2.2.2.2.2.2.2.1,(w64 (x.2.2.2.2.2.2.2.2.1+1)),x.2.2.2.2.2.2.2.2.2)
 else
  some x.2.2.1
 partial_fixpoint
theorem As.l2.ws:PC As.l2 (fun x o=>∀ lo c (Q:EP) (hb:∀ s:List AA,o=s→Q (.exit 4) ⟨[(0,.v (.slice .foreign (x.1.map AD.av))),(1,.v (.w x.2.1)),(5,.own 100500 5 (s.map AA.av)),(6,.v (.slice .foreign (x.2.2.2.1.map AV.w))),(7,.v (.i64 x.2.2.2.2.1)),(10,.lref 10 0),(12,.v (.slice .foreign (x.2.2.2.2.2.1.map AA.av))),(13,.v (.slice .foreign (x.2.2.2.2.2.2.1.map AA.av))),(14,.v (.i64 x.2.2.2.2.2.2.2.1))],[(10,[.v (.i64 x.2.2.2.2.2.2.2.2.2.Kind),.v (.slice .foreign (x.2.2.2.2.2.2.2.2.2.Edges.map AV.i64)),.v (.slice .foreign (x.2.2.2.2.2.2.2.2.2.Preds.map AB.av))])]⟩),AK Tryz.prog 35 lo c 2 (VQ Q) ⟨[(0,.v (.slice .foreign (x.1.map AD.av))),(1,.v (.w x.2.1)),(5,.own 100500 5 (x.2.2.1.map AA.av)),(6,.v (.slice .foreign (x.2.2.2.1.map AV.w))),(7,.v (.i64 x.2.2.2.2.1)),(10,.lref 10 0),(12,.v (.slice .foreign (x.2.2.2.2.2.1.map AA.av))),(13,.v (.slice .foreign (x.2.2.2.2.2.2.1.map AA.av))),(14,.v (.i64 x.2.2.2.2.2.2.2.1)),(15,.v (.i64 x.2.2.2.2.2.2.2.2.1))],[(10,[.v (.i64 x.2.2.2.2.2.2.2.2.2.Kind),.v (.slice .foreign (x.2.2.2.2.2.2.2.2.2.Edges.map AV.i64)),.v (.slice .foreign (x.2.2.2.2.2.2.2.2.2.Preds.map AB.av))])]⟩):=by
 refine As.l2.partial_correctness _ ?_
 ·intro Ut Tv x o h
  have AHf:AH Ut _:=⟨Tv⟩
  intro lo c Q hb
  refine AK.step mix Yb (by kernel_rfl) ?_
  simp -implicitDefEqProofs only[go_sem,Tryz.f35]
  exact AR
instance As.l2.w:type_of% (AH.mk As.l2.ws):=⟨As.l2.ws⟩
def As.l1 (x:List AD × AC × List AA × List AC × Int × List AA × List AA × Int × Al):Option (List AA) :=
 if(decide (x.2.2.2.2.2.2.2.1<(x.2.2.2.2.2.1.length:Int)))=true then
  As.l2 (x.1,x.2.1,x.2.2.1,x.2.2.2.1,x.2.2.2.2.1,x.2.2.2.2.2.1,x.2.2.2.2.2.2.1,x.2.2.2.2.2.2.2.1,0,x.2.2.2.2.2.2.2.2)>>=fun (o31:List AA) =>
  As.l1 (x.1,x.2.1,o31,x.2.2.2.1,x.2.2.2.2.1,x.2.2.2.2.2.1,x.2.2.2.2.2.2.1,(w64 (x.2.2.2.2.2.2.2.1+1)),x.2.2.2.2.2.2.2.2)
 else
  some x.2.2.1
 partial_fixpoint
theorem As.l1.ws:PC As.l1 (fun x o=>∀ lo c (Q:EP) (hb:∀ s:List AA,o=s→Q (.exit 2) ⟨[(0,.v (.slice .foreign (x.1.map AD.av))),(1,.v (.w x.2.1)),(5,.own 100500 5 (s.map AA.av)),(6,.v (.slice .foreign (x.2.2.2.1.map AV.w))),(7,.v (.i64 x.2.2.2.2.1))],[]⟩),AK Tryz.prog 35 lo c 1 (VQ Q) ⟨[(0,.v (.slice .foreign (x.1.map AD.av))),(1,.v (.w x.2.1)),(5,.own 100500 5 (x.2.2.1.map AA.av)),(6,.v (.slice .foreign (x.2.2.2.1.map AV.w))),(7,.v (.i64 x.2.2.2.2.1)),(10,.lref 10 0),(12,.v (.slice .foreign (x.2.2.2.2.2.1.map AA.av))),(13,.v (.slice .foreign (x.2.2.2.2.2.2.1.map AA.av))),(14,.v (.i64 x.2.2.2.2.2.2.2.1))],[(10,[.v (.i64 x.2.2.2.2.2.2.2.2.Kind),.v (.slice .foreign (x.2.2.2.2.2.2.2.2.Edges.map AV.i64)),.v (.slice .foreign (x.2.2.2.2.2.2.2.2.Preds.map AB.av))])]⟩):=by
 refine As.l1.partial_correctness _ ?_
 ·intro VW Tt x o h
  have AHs:AH VW _:=⟨Tt⟩
  intro lo c Q hb
  refine AK.step mix Yb (by kernel_rfl) ?_
  simp -implicitDefEqProofs only[go_sem,Tryz.f35]
  exact AR
instance As.l1.w:type_of% (AH.mk As.l1.ws):=⟨As.l1.ws⟩
mutual
def As.l0 (x:List AD × AC × List AA × List AC × Int):Option (List AA) :=
 if(decide ((w64 (x.2.2.2.2+1))<(x.2.2.2.1.length:Int)))=true then
  (AU x.2.2.2.1 x.2.2.2.2)>>=fun (e11:AC) =>
  CQ (x.1,e11,(x.2.1&&&~~~e11))>>=fun r13 =>
  if r13.2=true then
   As (x.1,e11)>>=fun r16 =>
   if((r16.length:Int) == 0)=true then
    As.l0 (x.1,x.2.1,x.2.2.1,x.2.2.2.1,(w64 (x.2.2.2.2+1)))
   else
    As (x.1,(x.2.1&&&~~~e11))>>=fun r19 =>
    As.l1 (x.1,x.2.1,x.2.2.1,x.2.2.2.1,x.2.2.2.2,r16,r19,0,r13.1)>>=fun (o33:List AA) =>
    As.l0 (x.1,x.2.1,o33,x.2.2.2.1,(w64 (x.2.2.2.2+1)))
  else
   As.l0 (x.1,x.2.1,x.2.2.1,x.2.2.2.1,(w64 (x.2.2.2.2+1)))
 else
  some x.2.2.1
 partial_fixpoint
def As (x:List AD × AC):Option (List AA) :=
 DO x.2>>=fun r1 =>
 if(r1 == 1)=true then
  IV x.2>>=fun r4 =>
  Db r4>>=fun r6 =>
  some ([r6])
 else
  BI x.2>>=fun r8 =>
  As.l0 (x.1,x.2,([]:List AA),r8,0)>>=fun (o35:List AA) =>
  some o35
 partial_fixpoint
end
theorem As.l0.ws:PC As.l0 (fun x o=>∀ lo c (Q:EP) (hb:∀ s:List AA,o=s→Q (.exit 0) ⟨[(5,.own 100500 5 (s.map AA.av))],[]⟩),AK Tryz.prog 35 lo c 0 (VQ Q) ⟨[(0,.v (.slice .foreign (x.1.map AD.av))),(1,.v (.w x.2.1)),(5,.own 100500 5 (x.2.2.1.map AA.av)),(6,.v (.slice .foreign (x.2.2.2.1.map AV.w))),(7,.v (.i64 x.2.2.2.2))],[]⟩)∧PC As (fun x r=>Fn Tryz.prog 35 [.slice .foreign (x.1.map AD.av),.w x.2] (.slice .foreign (r.map AA.av))):=by
 refine As.l0.mutual_partial_correctness _ _ ?_ ?_
 ·intro Kn Yr KH YN x o h
  have VI:AH Kn _:=⟨KH⟩
  have AKI:AH Yr _:=⟨YN⟩
  intro lo c Q hb
  refine AK.step mix Yb (by kernel_rfl) ?_
  simp -implicitDefEqProofs only[go_sem,Tryz.f35]
  exact AR
 ·intro Kn KH x r h
  have VI:AH Kn _:=⟨KH⟩
  refine Fn.of_lc mix Yb AK8 (by rfl) (flC (AT _ AD.flat _) (flC (.atom _) (flN))) (AT _ AA.flat _) ?_
  simp -implicitDefEqProofs only[go_sem,Tryz.f35]
  exact AR
instance As.w:type_of% (AH.mk As.l0.ws.2):=⟨As.l0.ws.2⟩
end
section
def Ao (s:AC):Nat:=(BS s).length
theorem AAF {α:Type} (p q:α→Bool) (l:List α):(l.filter p).length=(l.filter fun x=>p x&&q x).length+(l.filter fun x=>p x&&!q x).length:=by
 induction l with
 | nil=>rfl
 | cons x l ih =>
  simp only[List.filter_cons]
  cases p x <;> cases q x <;> simp <;> omega
theorem WR (s:AC):Ao s=((List.range 64).filter fun i=>s.getLsbD i).length:=by unfold Ao BS;rw[List.length_map]
theorem JJ {a s:AC} (h:inS a s=true):Ao s=Ao a+Ao (s&&&~~~a):=by
 rw[WR,WR,WR,AAF (fun i=>s.getLsbD i) (fun i=>a.getLsbD i)]
 congr 2
 ·refine List.filter_congr fun i hi=>?_
  have h1:=(KV a s).1 h i (List.mem_range.1 hi)
  cases h2:a.getLsbD i
  ·simp
  ·simp[h1 h2]
 ·refine List.filter_congr fun i hi=>?_
  have hi:=List.mem_range.1 hi
  rw[BitVec.getLsbD_and,BitVec.getLsbD_not];simp[hi]
theorem QX {a:AC} (h:Ao a=0):a=0#64:=by
 refine(KJ a).2 fun n=>?_
 cases hn:Ad a n with
 | false=>rfl
 | true =>
  have:=(FJ a n).2 hn
  have h2:BS a=[]:=List.length_eq_zero_iff.1 h
  rw[h2] at this;cases this
theorem AAQ (a s:AC):inS (s&&&~~~a) s=true:=(EE _ _).2 fun n h=>by rw[IH,Bool.and_eq_true] at h;exact h.1
theorem Yy {a s:AC} (h:inS a s=true) (h0:s&&&~~~a=0#64):a=s:=by
 refine KW fun n=>?_
 have h1:=(KJ _).1 h0 n
 rw[IH] at h1
 have h2:=(EE a s).1 h n
 cases h3:Ad a n <;> cases h4:Ad s n <;> simp_all
theorem Nq {a s:AC} (h:inS a s=true) (h0:a≠0#64) (h1:a≠s):1≤Ao a∧1≤Ao (s&&&~~~a)∧Ao a+Ao (s&&&~~~a)=Ao s:=by
 refine⟨?_,?_,(JJ h).symm⟩
 ·rcases Nat.eq_zero_or_pos (Ao a) with e | e
  ·exact absurd (QX e) h0
  ·exact e
 ·rcases Nat.eq_zero_or_pos (Ao (s&&&~~~a)) with e | e
  ·exact absurd (Yy h (QX e)) h1
  ·exact e
def BM (i:Int):AA:=⟨0,i,[],[],false⟩
def Cx (es:List AD) (a b:AC) (x y:AA):AA:=⟨MD es (Bl es a b),0,[x,y],DF es (Bl es a b),false⟩
def FC (s:AC):Int:=match BS s with
 | i :: _=>i
 | []=>-1
def spF (es:List AD):Nat→AC→List AA
 | 0,_=>[]
 | n+1,s=>if Ao s=1 then [BM (FC s)] else(Ck s).dropLast.flatMap fun a=>if Fk es a (s&&&~~~a)=true then(spF es n a).flatMap fun x=>(spF es n (s&&&~~~a)).map fun y=>Cx es a (s&&&~~~a) x y else []
def spL:Nat→Nat
 | 2=>4
 | 3=>32
 | 4=>512
 | 5=>16384
 | _=>1
theorem Iw {s a:AC} (h:a∈(Ck s).dropLast):a≠0#64∧inS a s=true∧a≠s:=by
 obtain⟨h1,h2⟩:=(ET s a).1 ((List.dropLast_sublist _).subset h)
 refine⟨h1,h2,?_⟩
 rintro rfl
 have hs:a∈Ck a:=(ET a a).2 ⟨h1,(EE a a).2 fun n hn=>hn⟩
 have hne:Ck a≠[]:=List.ne_nil_of_mem hs
 have hlt:=NQ a
 rw[← List.dropLast_concat_getLast hne] at hlt
 have h3:=(List.pairwise_append.1 hlt).2.2 a h _ (List.mem_singleton.2 rfl)
 have h4:=(ET a _).1 (List.getLast_mem hne)
 have h5:=NI h4.2
 omega
theorem Nk {α β:Type} (f:α→List β) (n:Nat):∀ (l:List α),(∀ x∈l,(f x).length≤n)→(l.flatMap f).length≤l.length * n:=by
 intro l
 induction l with
 | nil=>intro _;simp
 | cons x l ih =>
  intro h
  have h1:=h x List.mem_cons_self
  have h2:=ih fun y hy=>h y (List.mem_cons_of_mem _ hy)
  rw[List.flatMap_cons,List.length_append,List.length_cons,Nat.succ_mul]
  omega
theorem WY (es:List AD):∀ (n:Nat) (s:AC),Ao s≤5→(spF es n s).length≤spL (Ao s):=by
 intro n
 induction n with
 | zero=>intro s _;exact Nat.zero_le _
 | succ n ih =>
  intro s hc
  rw[spF]
  split
  ·rename_i h1;rw[h1];exact Nat.le_refl _
  ·rename_i h1
   have key:∀ M,(∀ a,a∈(Ck s).dropLast→spL (Ao a) * spL (Ao (s&&&~~~a))≤M)→((Ck s).dropLast.flatMap fun a=>if Fk es a (s&&&~~~a)=true then(spF es n a).flatMap fun x=>(spF es n (s&&&~~~a)).map fun y=>Cx es a (s&&&~~~a) x y else []).length≤(2 ^ Ao s - 1 - 1) * M:=fun M hM=>by
    refine Nat.le_trans (Nk _ M _ fun a ha=>?_) ?_
    ·obtain⟨h2,h3,h4⟩:=Iw ha
     obtain⟨h5,h6,h7⟩:=Nq h3 h2 h4
     split
     ·refine Nat.le_trans (Nk _ (spL (Ao (s&&&~~~a))) _ fun x hx=>?_) (Nat.le_trans (Nat.mul_le_mul_right _ (ih a (by omega))) (hM a ha))
      rw[List.length_map];exact ih _ (by omega)
     ·exact Nat.zero_le _
    ·rw[List.length_dropLast,VE];exact Nat.le_refl _
   have BA:∀ a,a∈(Ck s).dropLast→1≤Ao a∧1≤Ao (s&&&~~~a)∧Ao a+Ao (s&&&~~~a)=Ao s:=fun a ha=>by
    obtain⟨h2,h3,h4⟩:=Iw ha
    exact Nq h3 h2 h4
   have fin:∀ M,(∀ p q,1≤p→1≤q→p+q=Ao s→spL p * spL q≤M)→(2 ^ Ao s - 1 - 1) * M≤spL (Ao s)→((Ck s).dropLast.flatMap fun a=>if Fk es a (s&&&~~~a)=true then(spF es n a).flatMap fun x=>(spF es n (s&&&~~~a)).map fun y=>Cx es a (s&&&~~~a) x y else []).length≤spL (Ao s):=fun M h2 h3 =>
    Nat.le_trans (key M fun a ha=>by obtain⟨h4,h5,h6⟩:=BA a ha;exact h2 _ _ h4 h5 h6) h3
   have hcases:Ao s=0∨Ao s=2∨Ao s=3∨Ao s=4∨Ao s=5:=by omega
   rcases hcases with e | e | e | e | e
   ·refine fin 1 (fun p q h2 h3 h4=>by omega) (by rw[e];decide)
   ·refine fin 1 (fun p q h2 h3 h4=>?_) (by rw[e];decide)
    obtain rfl:p=1:=by omega
    obtain rfl:q=1:=by omega
    decide
   ·refine fin 4 (fun p q h2 h3 h4=>?_) (by rw[e];decide)
    have:p=1∨p=2:=by omega
    rcases this with rfl | rfl
    ·obtain rfl:q=2:=by omega
     decide
    ·obtain rfl:q=1:=by omega
     decide
   ·refine fin 32 (fun p q h2 h3 h4=>?_) (by rw[e];decide)
    have:p=1∨p=2∨p=3:=by omega
    rcases this with rfl | rfl | rfl
    ·obtain rfl:q=3:=by omega
     decide
    ·obtain rfl:q=2:=by omega
     decide
    ·obtain rfl:q=1:=by omega
     decide
   ·refine fin 512 (fun p q h2 h3 h4=>?_) (by rw[e];decide)
    have:p=1∨p=2∨p=3∨p=4:=by omega
    rcases this with rfl | rfl | rfl | rfl
    ·obtain rfl:q=4:=by omega
     decide
    ·obtain rfl:q=3:=by omega
     decide
    ·obtain rfl:q=2:=by omega
     decide
    ·obtain rfl:q=1:=by omega
     decide
theorem Xm (c:Al) (x y:AA):It (c,x,y)=some ⟨c.Kind,0,[x,y],c.Preds,false⟩:=rfl
section
variable {es:List AD}
theorem AMv (s:AC) (BA:List AC) (i k:Int) (xs ys:List AA) (c:Al) (x:AA) (hx:AU xs k=some x):∀ (post pre acc:List AA),pre++post=ys→pre.length+post.length≤100000→acc.length+post.length≤1000000000 →
  As.l2 (es,s,acc,BA,i,xs,ys,k,(pre.length:Int),c)=some (acc++post.map fun y=>⟨c.Kind,0,[x,y],c.Preds,false⟩):=by
 intro post
 induction post with
 | nil=>intro pre acc he _ _;rw[List.append_nil] at he;subst he;rw[As.l2,if_neg (dge (by dsimp only;omega))];simp
 | cons y l ih =>
  intro pre acc he h1 h2
  simp only[List.length_cons] at h1 h2
  have hlen:pre.length+(l.length+1)=ys.length:=by rw[← he,List.length_append];rfl
  rw[As.l2,if_pos (dlt (by dsimp only;omega))]
  dsimp only
  rw[hx]
  simp -implicitDefEqProofs only[Option.bind_eq_bind,Option.bind_some]
  have hy:AU ys (pre.length:Int)=some y:=by rw[← he,FB]
  rw[hy]
  simp -implicitDefEqProofs only[Option.bind_some,Xm]
  rw[Bt (by simp only[List.length_cons,List.length_nil];omega),Aa (by omega)]
  simp -implicitDefEqProofs only[Option.bind_some]
  have:=ih (pre++[y]) (acc++[⟨c.Kind,0,[x,y],c.Preds,false⟩]) (by rw[List.append_assoc];exact he) (by rw[CX];omega) (by rw[CX];omega)
  rw[CX,List.append_assoc] at this
  exact this
theorem AMt (s:AC) (BA:List AC) (i:Int) (xs ys:List AA) (c:Al) (hys:ys.length≤100000):∀ (post pre acc:List AA),pre++post=xs→pre.length+post.length≤100000→acc.length+post.length * ys.length≤1000000000 →
  As.l1 (es,s,acc,BA,i,xs,ys,(pre.length:Int),c)=some (acc++post.flatMap fun x=>ys.map fun y=>⟨c.Kind,0,[x,y],c.Preds,false⟩):=by
 intro post
 induction post with
 | nil=>intro pre acc he _ _;rw[List.append_nil] at he;subst he;rw[As.l1,if_neg (dge (by dsimp only;omega))];simp
 | cons x l ih =>
  intro pre acc he h1 h2
  simp only[List.length_cons,Nat.succ_mul] at h1 h2
  have hlen:pre.length+(l.length+1)=xs.length:=by rw[← he,List.length_append];rfl
  rw[As.l1,if_pos (dlt (by dsimp only;omega))]
  dsimp only
  have hx:AU xs (pre.length:Int)=some x:=by rw[← he,FB]
  have h3:=AMv (es:=es) s BA i (pre.length:Int) xs ys c x hx ys [] acc rfl (by simp;omega) (by omega)
  rw[List.length_nil,show ((0:Nat):Int)=0 from rfl] at h3
  rw[h3]
  simp -implicitDefEqProofs only[Option.bind_eq_bind,Option.bind_some]
  rw[Aa (by omega)]
  have:=ih (pre++[x]) (acc++ys.map fun y=>⟨c.Kind,0,[x,y],c.Preds,false⟩) (by rw[List.append_assoc];exact he) (by rw[CX];omega) (by rw[List.length_append,List.length_map];omega)
  rw[CX,List.append_assoc] at this
  exact this
theorem ABE (w:JM es):∀ (n:Nat) (s:AC),Ao s≤n→Ao s≤5→1≤n→As (es,s)=some (spF es n s):=by
 intro n
 induction n with
 | zero=>intro s _ _ h;omega
 | succ n ih =>
  intro s hn hc _
  rw[As,spF]
  dsimp only
  rw[KF]
  simp -implicitDefEqProofs only[Option.bind_eq_bind,Option.bind_some]
  by_cases h1:Ao s=1
  ·rw[if_pos (by unfold Ao at h1;simp[h1]),if_pos h1]
   have hm:IV s=some (FC s):=by
    unfold IV FC
    rw[Lx]
    simp -implicitDefEqProofs only[Option.bind_eq_bind,Option.bind_some]
    unfold Ao at h1
    cases hl:BS s with
    | nil=>rw[hl] at h1;cases h1
    | cons i l=>rw[if_neg (by simp;omega)];rfl
   rw[hm];rfl
  ·rw[if_neg (by unfold Ao at h1;simp;omega),if_neg h1]
   rw[We s (by unfold Ao at hc;omega)]
   simp -implicitDefEqProofs only[Option.bind_some]
   have hpl:(Ck s).length≤31:=by
    rw[VE]
    have:2 ^ (BS s).length≤2 ^ 5:=Nat.pow_le_pow_right (by omega) hc
    omega
   have key:∀ (post pre:List AC) (acc:List AA),pre++post=Ck s→acc.length≤pre.length * 16384→As.l0 (es,s,acc,Ck s,(pre.length:Int))=some (acc++post.dropLast.flatMap fun a=>if Fk es a (s&&&~~~a)=true then(spF es n a).flatMap fun x=>(spF es n (s&&&~~~a)).map fun y=>Cx es a (s&&&~~~a) x y else []):=by
    intro post
    induction post with
    | nil =>
     intro pre acc he _
     rw[List.append_nil] at he
     rw[As.l0,if_neg (by dsimp only;rw[← he,Aa (by rw[← he] at hpl;omega)];simp;omega)]
     simp
    | cons a l ih2 =>
     intro pre acc he hacc
     have hlen:pre.length+(l.length+1)=(Ck s).length:=by rw[← he,List.length_append];rfl
     cases l with
     | nil =>
      rw[As.l0,if_neg (by dsimp only;rw[Aa (by omega)];simp only[decide_eq_true_eq];simp at hlen;omega)]
      simp
     | cons z l =>
      simp only[List.length_cons] at hlen
      have hnext:=fun acc' h=>ih2 (pre++[a]) acc' (by rw[List.append_assoc];exact he) (by rw[CX];exact h)
      rw[CX] at hnext
      rw[As.l0,if_pos (by dsimp only;rw[Aa (by omega)];simp only[decide_eq_true_eq];omega)]
      dsimp only
      have ha:AU (Ck s) (pre.length:Int)=some a:=by rw[← he,FB]
      have hmem:a∈(Ck s).dropLast:=by
       rw[← he,List.dropLast_append_of_ne_nil (by simp)]
       simp
      obtain⟨g1,g2,g3⟩:=Iw hmem
      obtain⟨g4,g5,g6⟩:=Nq g2 g1 g3
      rw[ha,Aa (by omega)]
      simp -implicitDefEqProofs only[Option.bind_eq_bind,Option.bind_some]
      rw[YT w]
      simp -implicitDefEqProofs only[Option.bind_some]
      rw[List.dropLast_cons_of_ne_nil (by simp),List.flatMap_cons]
      cases hj:Fk es a (s&&&~~~a)
      ·simp only[Bool.false_eq_true,if_false,List.nil_append]
       exact hnext acc (Nat.le_trans hacc (Nat.mul_le_mul_right _ (Nat.le_succ _)))
      ·simp only[if_true]
       rw[ih a (by omega) (by omega) (by omega)]
       simp -implicitDefEqProofs only[Option.bind_some]
       have hxl:=WY es n a (by omega)
       have hyl:=WY es n (s&&&~~~a) (by omega)
       by_cases hx:spF es n a=[]
       ·rw[if_pos (by simp[hx]),hx,List.flatMap_nil,List.nil_append]
        exact hnext acc (Nat.le_trans hacc (Nat.mul_le_mul_right _ (Nat.le_succ _)))
       ·have hxp:=List.length_pos_iff.2 hx
        rw[if_neg (by simp;omega),ih (s&&&~~~a) (by omega) (by omega) (by omega)]
        simp -implicitDefEqProofs only[Option.bind_some]
        have hb:spL (Ao a) * spL (Ao (s&&&~~~a))≤512:=by
         have hp:Ao a=1∨Ao a=2∨Ao a=3∨Ao a=4:=by omega
         have hq:Ao (s&&&~~~a)=1∨Ao (s&&&~~~a)=2∨Ao (s&&&~~~a)=3∨Ao (s&&&~~~a)=4:=by omega
         rcases hp with e | e | e | e <;> rcases hq with e2 | e2 | e2 | e2 <;> first | (exfalso;omega) | (rw[e,e2];decide)
        have hprod:(spF es n a).length * (spF es n (s&&&~~~a)).length≤512:=Nat.le_trans (Nat.mul_le_mul hxl hyl) hb
        have hyb:(spF es n (s&&&~~~a)).length≤512:=by
         have:=Nat.le_mul_of_pos_left (spF es n (s&&&~~~a)).length hxp
         omega
        have hxb:(spF es n a).length≤16384:=by
         have hp:Ao a=1∨Ao a=2∨Ao a=3∨Ao a=4:=by omega
         rcases hp with e | e | e | e <;> rw[e] at hxl <;> simp[spL] at hxl <;> omega
        have h3:=AMt (es:=es) s (Ck s) (pre.length:Int) (spF es n a) (spF es n (s&&&~~~a)) (ZA es a (s&&&~~~a)) (by omega) (spF es n a) [] acc rfl (by simp;omega) (by omega)
        rw[List.length_nil,show ((0:Nat):Int)=0 from rfl] at h3
        rw[h3]
        simp -implicitDefEqProofs only[Option.bind_some]
        refine(hnext _ ?_).trans ?_
        ·rw[List.length_append]
         have:=Nk (fun x=>(spF es n (s&&&~~~a)).map fun y=>(⟨(ZA es a (s&&&~~~a)).Kind,0,[x,y],(ZA es a (s&&&~~~a)).Preds,false⟩:AA)) (spF es n (s&&&~~~a)).length (spF es n a) (fun x _=>by rw[List.length_map];exact Nat.le_refl _)
         omega
        ·rw[List.append_assoc];rfl
   have h0:=key (Ck s) [] [] rfl (Nat.zero_le _)
   rw[List.length_nil,show ((0:Nat):Int)=0 from rfl,List.nil_append] at h0
   rw[h0];rfl
end
end
section
theorem AJI:okF Tryz.f106=true:=by kernel_rfl
def Do (x:AZ × AC):Option (AC) :=
 Ax (x.1.Edges,x.1.Stats,x.2)>>=fun r1 =>
 some r1
instance Do.w:AH Do (fun x r=>Fn Tryz.prog 106 [.agg (AZ.C x.1),.w x.2] (.w r)):=⟨by
 intro x r h
 rw[Do] at h
 try dsimp only
 refine Fn.of_lc mix AL7 AJI (by rfl) (flC (AZ.flatC _) (flC (.atom _) (flN))) (.atom _) ?_
 simp -implicitDefEqProofs only[go_sem,Tryz.f106]
 exact AR⟩
end
section
theorem AJE:okF Tryz.f146=true:=by kernel_rfl
def Ba.l0 (x:AC × AC × List AW × List AB × Int × Int):Option (List AW) :=
 if(decide (x.2.2.2.2.2<x.2.2.2.2.1))=true then
  (AU x.2.2.2.1 x.2.2.2.2.2)>>=fun (e2:AB) =>
  if(e2.Kind != 2)=true then
   Ba.l0 (x.1,x.2.1,x.2.2.1,x.2.2.2.1,x.2.2.2.2.1,(w64 (x.2.2.2.2.2+1)))
  else
   if(e2.Op != 1)=true then
    Ba.l0 (x.1,x.2.1,x.2.2.1,x.2.2.2.1,x.2.2.2.2.1,(w64 (x.2.2.2.2.2+1)))
   else
    if(e2.A.Kind != 1)=true then
     Ba.l0 (x.1,x.2.1,x.2.2.1,x.2.2.2.1,x.2.2.2.2.1,(w64 (x.2.2.2.2.2+1)))
    else
     if(e2.B.Kind != 1)=true then
      Ba.l0 (x.1,x.2.1,x.2.2.1,x.2.2.2.1,x.2.2.2.2.1,(w64 (x.2.2.2.2.2+1)))
     else
      ER (x.1,e2.A.Table)>>=fun r8 =>
      if r8=true then
       ER (x.2.1,e2.B.Table)>>=fun r11 =>
       if r11=true then
        (room 80 x.2.2.1 ([(⟨e2.A,e2.B⟩:AW)]))>>=fun (z14:List AW) =>
        Ba.l0 (x.1,x.2.1,z14,x.2.2.2.1,x.2.2.2.2.1,(w64 (x.2.2.2.2.2+1)))
       else
        ER (x.1,e2.B.Table)>>=fun r16 =>
        if r16=true then
         ER (x.2.1,e2.A.Table)>>=fun r19 =>
         if r19=true then
          (room 80 x.2.2.1 ([(⟨e2.B,e2.A⟩:AW)]))>>=fun (z22:List AW) =>
          Ba.l0 (x.1,x.2.1,z22,x.2.2.2.1,x.2.2.2.2.1,(w64 (x.2.2.2.2.2+1)))
         else
          Ba.l0 (x.1,x.2.1,x.2.2.1,x.2.2.2.1,x.2.2.2.2.1,(w64 (x.2.2.2.2.2+1)))
        else
         Ba.l0 (x.1,x.2.1,x.2.2.1,x.2.2.2.1,x.2.2.2.2.1,(w64 (x.2.2.2.2.2+1)))
      else
       ER (x.1,e2.B.Table)>>=fun r24 =>
       if r24=true then
        ER (x.2.1,e2.A.Table)>>=fun r27 =>
        if r27=true then
         (room 80 x.2.2.1 ([(⟨e2.B,e2.A⟩:AW)]))>>=fun (z30:List AW) =>
         Ba.l0 (x.1,x.2.1,z30,x.2.2.2.1,x.2.2.2.2.1,(w64 (x.2.2.2.2.2+1)))
        else
         Ba.l0 (x.1,x.2.1,x.2.2.1,x.2.2.2.1,x.2.2.2.2.1,(w64 (x.2.2.2.2.2+1)))
       else
        Ba.l0 (x.1,x.2.1,x.2.2.1,x.2.2.2.1,x.2.2.2.2.1,(w64 (x.2.2.2.2.2+1)))
 else
  some x.2.2.1
 partial_fixpoint
theorem Ba.l0.ws:PC Ba.l0 (fun x o=>∀ lo c (Q:EP) (hb:∀ s:List AW,o=s→Q (.exit 0) ⟨[(7,.own 100700 10 (s.map AW.av))],[]⟩),AK Tryz.prog 146 lo c 0 (VQ Q) ⟨[(1,.v (.w x.1)),(2,.v (.w x.2.1)),(7,.own 100700 10 (x.2.2.1.map AW.av)),(10,.v (.slice .foreign (x.2.2.2.1.map AB.av))),(11,.v (.i64 x.2.2.2.2.1)),(12,.v (.i64 x.2.2.2.2.2))],[]⟩):=by
 refine Ba.l0.partial_correctness _ ?_
 ·intro TM SI x o h
  have AGs:AH TM _:=⟨SI⟩
  intro lo c Q hb
  refine AK.step mix ADl (by kernel_rfl) ?_
  simp -implicitDefEqProofs only[go_sem,Tryz.f146]
  exact AR
instance Ba.l0.w:type_of% (AH.mk Ba.l0.ws):=⟨Ba.l0.ws⟩
def Ba (x:List AB × AC × AC):Option (List AW) :=
 Ba.l0 (x.2.1,x.2.2,([]:List AW),x.1,(x.1.length:Int),0)>>=fun (o32:List AW) =>
 some o32
instance Ba.w:AH Ba (fun x r=>Fn Tryz.prog 146 [.slice .foreign (x.1.map AB.av),.w x.2.1,.w x.2.2] (.slice .foreign (r.map AW.av))):=⟨by
 intro x r h
 rw[Ba] at h
 try dsimp only
 refine Fn.of_lc mix ADl AJE (by rfl) (flC (AT _ AB.flat _) (flC (.atom _) (flC (.atom _) (flN)))) (AT _ AW.flat _) ?_
 simp -implicitDefEqProofs only[go_sem,Tryz.f146]
 exact AR⟩
end
section
theorem AIQ:okF Tryz.f123=true:=by kernel_rfl
def FP (x:AZ × AC × AC × List AB):Option (Bool) :=
 Bd x.1.Edges>>=fun r1 =>
 if(x.1.Kind == 2)=true then
  Ba (x.2.2.2,(x.2.1&&&~~~r1),(x.2.2.1&&&~~~r1))>>=fun r4 =>
  some (decide ((r4.length:Int) > 0))
 else
  some false
instance FP.w:AH FP (fun x r=>Fn Tryz.prog 123 [.agg (AZ.C x.1),.w x.2.1,.w x.2.2.1,.slice .foreign (x.2.2.2.map AB.av)] (.bool r)):=⟨by
 intro x r h
 rw[FP] at h
 try dsimp only
 refine Fn.of_lc mix ALO AIQ (by rfl) (flC (AZ.flatC _) (flC (.atom _) (flC (.atom _) (flC (AT _ AB.flat _) (flN))))) (.atom _) ?_
 simp -implicitDefEqProofs only[go_sem,Tryz.f123]
 exact AR⟩
end
section
theorem AJs:okF Tryz.f107=true:=by kernel_rfl
def Gu (x:AZ × AC × AC × List AB):Option (Int) :=
 if(x.1.Kind != 2)=true then
  some 0
 else
  FP (x.1,x.2.1,x.2.2.1,x.2.2.2)>>=fun r2 =>
  if r2=true then
   some 1
  else
   some 2
instance Gu.w:AH Gu (fun x r=>Fn Tryz.prog 107 [.agg (AZ.C x.1),.w x.2.1,.w x.2.2.1,.slice .foreign (x.2.2.2.map AB.av)] (.i64 r)):=⟨by
 intro x r h
 rw[Gu] at h
 try dsimp only
 refine Fn.of_lc mix AMT AJs (by rfl) (flC (AZ.flatC _) (flC (.atom _) (flC (.atom _) (flC (AT _ AB.flat _) (flN))))) (.atom _) ?_
 simp -implicitDefEqProofs only[go_sem,Tryz.f107]
 exact AR⟩
end
section
@[go_sem] theorem AQF:lrp Tryz.prog 69 4=(10,[]):=by kernel_rfl
@[go_sem] theorem APY:lrp Tryz.prog 69 6=(11,[]):=by kernel_rfl
theorem ALv:okF Tryz.f69=true:=by kernel_rfl
def Er (x:AZ × AC × AC × List AB):Option (AC) :=
 Do (x.1,(x.2.1|||x.2.2.1))>>=fun r1 =>
 Gu (x.1,x.2.1,x.2.2.1,x.2.2.2)>>=fun r3 =>
 if(r3 == 1)=true then
  Do (x.1,x.2.1)>>=fun r6 =>
  Do (x.1,x.2.2.1)>>=fun r8 =>
  HU ([r6,r8,r1])>>=fun r10 =>
  some r10
 else
  if(r3 == 2)=true then
   Do (x.1,x.2.1)>>=fun r13 =>
   Do (x.1,x.2.2.1)>>=fun r15 =>
   Iz (r13,r15)>>=fun r17 =>
   HU ([r17,r1])>>=fun r19 =>
   some r19
  else
   some r1
instance Er.w:AH Er (fun x r=>Fn Tryz.prog 69 [.agg (AZ.C x.1),.w x.2.1,.w x.2.2.1,.slice .foreign (x.2.2.2.map AB.av)] (.w r)):=⟨by
 intro x r h
 rw[Er] at h
 try dsimp only
 refine Fn.of_lc mix AMz ALv (by rfl) (flC (AZ.flatC _) (flC (.atom _) (flC (.atom _) (flC (AT _ AB.flat _) (flN))))) (.atom _) ?_
 simp -implicitDefEqProofs only[go_sem,Tryz.f69]
 exact AR⟩
end
section
theorem AIs:okF Tryz.f127=true:=by kernel_rfl
def BP.l0 (x:List AB × AC × AC × List AW × Int):Option (List AW) :=
 if(decide (x.2.2.2.2<(x.1.length:Int)))=true then
  (AU x.1 x.2.2.2.2)>>=fun (e2:AB) =>
  if(e2.Kind != 2)=true then
   BP.l0 (x.1,x.2.1,x.2.2.1,x.2.2.2.1,(w64 (x.2.2.2.2+1)))
  else
   if(e2.Op != 1)=true then
    BP.l0 (x.1,x.2.1,x.2.2.1,x.2.2.2.1,(w64 (x.2.2.2.2+1)))
   else
    if(e2.A.Kind != 1)=true then
     BP.l0 (x.1,x.2.1,x.2.2.1,x.2.2.2.1,(w64 (x.2.2.2.2+1)))
    else
     if(e2.B.Kind != 1)=true then
      BP.l0 (x.1,x.2.1,x.2.2.1,x.2.2.2.1,(w64 (x.2.2.2.2+1)))
     else
      CU (x.2.1,e2.A.Table)>>=fun r8 =>
      if r8=true then
       CU (x.2.2.1,e2.B.Table)>>=fun r11 =>
       if r11=true then
        (room 80 x.2.2.2.1 ([(⟨e2.A,e2.B⟩:AW)]))>>=fun (z14:List AW) =>
        BP.l0 (x.1,x.2.1,x.2.2.1,z14,(w64 (x.2.2.2.2+1)))
       else
        CU (x.2.2.1,e2.A.Table)>>=fun r16 =>
        if r16=true then
         CU (x.2.1,e2.B.Table)>>=fun r19 =>
         if r19=true then
          (room 80 x.2.2.2.1 ([(⟨e2.B,e2.A⟩:AW)]))>>=fun (z22:List AW) =>
          BP.l0 (x.1,x.2.1,x.2.2.1,z22,(w64 (x.2.2.2.2+1)))
         else
          BP.l0 (x.1,x.2.1,x.2.2.1,x.2.2.2.1,(w64 (x.2.2.2.2+1)))
        else
         BP.l0 (x.1,x.2.1,x.2.2.1,x.2.2.2.1,(w64 (x.2.2.2.2+1)))
      else
       CU (x.2.2.1,e2.A.Table)>>=fun r24 =>
       if r24=true then
        CU (x.2.1,e2.B.Table)>>=fun r27 =>
        if r27=true then
         (room 80 x.2.2.2.1 ([(⟨e2.B,e2.A⟩:AW)]))>>=fun (z30:List AW) =>
         BP.l0 (x.1,x.2.1,x.2.2.1,z30,(w64 (x.2.2.2.2+1)))
        else
         BP.l0 (x.1,x.2.1,x.2.2.1,x.2.2.2.1,(w64 (x.2.2.2.2+1)))
       else
        BP.l0 (x.1,x.2.1,x.2.2.1,x.2.2.2.1,(w64 (x.2.2.2.2+1)))
 else
  some x.2.2.2.1
 partial_fixpoint
theorem BP.l0.ws:PC BP.l0 (fun x o=>∀ lo c (Q:EP) (hb:∀ s:List AW,o=s→Q (.exit 0) ⟨[(7,.own 100700 10 (s.map AW.av))],[]⟩),AK Tryz.prog 127 lo c 0 (VQ Q) ⟨[(0,.v (.slice .foreign (x.1.map AB.av))),(1,.v (.w x.2.1)),(2,.v (.w x.2.2.1)),(7,.own 100700 10 (x.2.2.2.1.map AW.av)),(8,.v (.i64 x.2.2.2.2))],[]⟩):=by
 refine BP.l0.partial_correctness _ ?_
 ·intro SK Qe x o h
  have AFm:AH SK _:=⟨Qe⟩
  intro lo c Q hb
  refine AK.step mix ADq (by kernel_rfl) ?_
  simp -implicitDefEqProofs only[go_sem,Tryz.f127]
  exact AR
instance BP.l0.w:type_of% (AH.mk BP.l0.ws):=⟨BP.l0.ws⟩
def BP (x:List AB × AC × AC):Option (List AW) :=
 BP.l0 (x.1,x.2.1,x.2.2,([]:List AW),0)>>=fun (o32:List AW) =>
 some o32
instance BP.w:AH BP (fun x r=>Fn Tryz.prog 127 [.slice .foreign (x.1.map AB.av),.w x.2.1,.w x.2.2] (.slice .foreign (r.map AW.av))):=⟨by
 intro x r h
 rw[BP] at h
 try dsimp only
 refine Fn.of_lc mix ADq AIs (by rfl) (flC (AT _ AB.flat _) (flC (.atom _) (flC (.atom _) (flN)))) (AT _ AW.flat _) ?_
 simp -implicitDefEqProofs only[go_sem,Tryz.f127]
 exact AR⟩
end
section
theorem AIo:okF Tryz.f147=true:=by kernel_rfl
def Bc.l0 (x:List AD × Int × Int):Option (Lp (Unit) (Bool)) :=
 if(decide (x.2.2<(x.1.length:Int)))=true then
  (AU x.1 x.2.2)>>=fun (e2:AD) =>
  if(e2.Kind == 3)=true then
   CU (e2.Right,x.2.1)>>=fun r5 =>
   if r5=true then
    some (.ret true)
   else
    Bc.l0 (x.1,x.2.1,(w64 (x.2.2+1)))
  else
   if(e2.Kind == 4)=true then
    CU (e2.Right,x.2.1)>>=fun r9 =>
    if r9=true then
     some (.ret true)
    else
     Bc.l0 (x.1,x.2.1,(w64 (x.2.2+1)))
   else
    Bc.l0 (x.1,x.2.1,(w64 (x.2.2+1)))
 else
  some (.brk ())
 partial_fixpoint
theorem Bc.l0.ws:PC Bc.l0 (fun x o=>∀ lo c (Q:EP) (hb:∀ s:Unit,o=Lp.brk s→Q (.exit 0) ⟨[],[]⟩) (hr:∀ (r:Bool) (L:AO),o=.ret r→DV Tryz.prog [.tmp 4] (.bool r) (fun _=>True) .ret L→Q .ret L),AK Tryz.prog 147 lo c 0 (VQ Q) ⟨[(0,.v (.slice .foreign (x.1.map AD.av))),(1,.v (.i64 x.2.1)),(5,.v (.i64 x.2.2))],[]⟩):=by
 refine Bc.l0.partial_correctness _ ?_
 ·intro Pz Om x o h
  have ADJ:AH Pz _:=⟨Om⟩
  intro lo c Q hb hr
  refine AK.step mix AER (by kernel_rfl) ?_
  simp -implicitDefEqProofs only[go_sem,Tryz.f147]
  exact AR
instance Bc.l0.w:type_of% (AH.mk Bc.l0.ws):=⟨Bc.l0.ws⟩
def Bc (x:List AD × Int):Option (Bool) :=
 Bc.l0 (x.1,x.2,0)>>=fun (o12:Lp (Unit) (Bool))=>match o12 with
 | .brk s15 =>
  some false
 | .ret r14 =>
  some r14
instance Bc.w:AH Bc (fun x r=>Fn Tryz.prog 147 [.slice .foreign (x.1.map AD.av),.i64 x.2] (.bool r)):=⟨by
 intro x r h
 rw[Bc] at h
 try dsimp only
 refine Fn.of_lc mix AER AIo (by rfl) (flC (AT _ AD.flat _) (flC (.atom _) (flN))) (.atom _) ?_
 simp -implicitDefEqProofs only[go_sem,Tryz.f147]
 exact AR⟩
end
section
theorem AIb:okF Tryz.f126=true:=by kernel_rfl
def Bz.l0 (x:List AD × List Int × Int):Option (List Int) :=
 if(decide (x.2.2<64))=true then
  Bc (x.1,x.2.2)>>=fun r2 =>
  if r2=true then
   (room 8 x.2.1 ([x.2.2]))>>=fun (z5:List Int) =>
   Bz.l0 (x.1,z5,(w64 (x.2.2+1)))
  else
   Bz.l0 (x.1,x.2.1,(w64 (x.2.2+1)))
 else
  some x.2.1
 partial_fixpoint
theorem Bz.l0.ws:PC Bz.l0 (fun x o=>∀ lo c (Q:EP) (hb:∀ s:List Int,o=s→Q (.exit 0) ⟨[(3,.own 100300 1 (s.map AV.i64))],[]⟩),AK Tryz.prog 126 lo c 0 (VQ Q) ⟨[(0,.v (.slice .foreign (x.1.map AD.av))),(3,.own 100300 1 (x.2.1.map AV.i64)),(4,.v (.i64 x.2.2))],[]⟩):=by
 refine Bz.l0.partial_correctness _ ?_
 ·intro Pr PX x o h
  have ADL:AH Pr _:=⟨PX⟩
  intro lo c Q hb
  refine AK.step mix AFa (by kernel_rfl) ?_
  simp -implicitDefEqProofs only[go_sem,Tryz.f126]
  exact AR
instance Bz.l0.w:type_of% (AH.mk Bz.l0.ws):=⟨Bz.l0.ws⟩
def Bz (x:List AD):Option (AC) :=
 Bz.l0 (x,([]:List Int),0)>>=fun (o7:List Int) =>
 BE o7>>=fun r9 =>
 some r9
instance Bz.w:AH Bz (fun x r=>Fn Tryz.prog 126 [.slice .foreign (x.map AD.av)] (.w r)):=⟨by
 intro x r h
 rw[Bz] at h
 try dsimp only
 refine Fn.of_lc mix AFa AIb (by rfl) (flC (AT _ AD.flat _) (flN)) (.atom _) ?_
 simp -implicitDefEqProofs only[go_sem,Tryz.f126]
 exact AR⟩
end
section
theorem AJB:okF Tryz.f110=true:=by kernel_rfl
def FA (x:Aq × AC × AC × List AB):Option (Bool) :=
 Bz x.1.Edges>>=fun r1 =>
 if(x.1.Kind == 2)=true then
  BP (x.2.2.2,(x.2.1&&&~~~r1),(x.2.2.1&&&~~~r1))>>=fun r4 =>
  some (decide ((r4.length:Int) > 0))
 else
  some false
instance FA.w:AH FA (fun x r=>Fn Tryz.prog 110 [.agg (Aq.C x.1),.w x.2.1,.w x.2.2.1,.slice .foreign (x.2.2.2.map AB.av)] (.bool r)):=⟨by
 intro x r h
 rw[FA] at h
 try dsimp only
 refine Fn.of_lc mix AL8 AJB (by rfl) (flC (Aq.flatC _) (flC (.atom _) (flC (.atom _) (flC (AT _ AB.flat _) (flN))))) (.atom _) ?_
 simp -implicitDefEqProofs only[go_sem,Tryz.f110]
 exact AR⟩
end
section
theorem AIe:okF Tryz.f125=true:=by kernel_rfl
def BB.l0 (x:List AD × AC × AC × Int × Ay):Option (AC) :=
 if(decide (x.2.2.2.1<64))=true then
  if(decide (x.2.2.2.1<(x.2.2.2.2.Rows.length:Int)))=true then
   CU (x.2.1,x.2.2.2.1)>>=fun r3 =>
   if r3=true then
    Bc (x.1,x.2.2.2.1)>>=fun r6 =>
    if r6=true then
     BB.l0 (x.1,x.2.1,x.2.2.1,(w64 (x.2.2.2.1+1)),x.2.2.2.2)
    else
     (AU x.2.2.2.2.Rows x.2.2.2.1)>>=fun (e9:AC) =>
     GF (x.2.2.1,e9)>>=fun r11 =>
     BB.l0 (x.1,x.2.1,r11,(w64 (x.2.2.2.1+1)),x.2.2.2.2)
   else
    BB.l0 (x.1,x.2.1,x.2.2.1,(w64 (x.2.2.2.1+1)),x.2.2.2.2)
  else
   some x.2.2.1
 else
  some x.2.2.1
 partial_fixpoint
theorem BB.l0.ws:PC BB.l0 (fun x o=>∀ lo c (Q:EP) (hb:∀ s:AC,o=s→Q (.exit 0) ⟨[(0,.v (.slice .foreign (x.1.map AD.av))),(2,.v (.w x.2.1)),(4,.lref 4 0),(7,.v (.w s))],[(4,[.v (.slice .foreign (x.2.2.2.2.Rows.map AV.w)),.v (.slice .foreign (x.2.2.2.2.Sel.map AV.w))])]⟩),AK Tryz.prog 125 lo c 0 (VQ Q) ⟨[(0,.v (.slice .foreign (x.1.map AD.av))),(2,.v (.w x.2.1)),(4,.lref 4 0),(7,.v (.w x.2.2.1)),(8,.v (.i64 x.2.2.2.1))],[(4,[.v (.slice .foreign (x.2.2.2.2.Rows.map AV.w)),.v (.slice .foreign (x.2.2.2.2.Sel.map AV.w))])]⟩):=by
 refine BB.l0.partial_correctness _ ?_
 ·intro SD RJ x o h
  have AFw:AH SD _:=⟨RJ⟩
  intro lo c Q hb
  refine AK.step mix AAW (by kernel_rfl) ?_
  simp -implicitDefEqProofs only[go_sem,Tryz.f125]
  exact AR
instance BB.l0.w:type_of% (AH.mk BB.l0.ws):=⟨BB.l0.ws⟩
def BB.l1 (x:List AD × AC × AC × Int × Ay):Option (AC) :=
 if(decide (x.2.2.2.1<(x.1.length:Int)))=true then
  if(decide (x.2.2.2.1<(x.2.2.2.2.Sel.length:Int)))=true then
   (AU x.1 x.2.2.2.1)>>=fun (e17:AD) =>
   Bo (e17.Uses,x.2.1)>>=fun r19 =>
   if r19=true then
    (AU x.2.2.2.2.Sel x.2.2.2.1)>>=fun (e22:AC) =>
    HL (x.2.2.1,e22)>>=fun r24 =>
    BB.l1 (x.1,x.2.1,r24,(w64 (x.2.2.2.1+1)),x.2.2.2.2)
   else
    BB.l1 (x.1,x.2.1,x.2.2.1,(w64 (x.2.2.2.1+1)),x.2.2.2.2)
  else
   some x.2.2.1
 else
  some x.2.2.1
 partial_fixpoint
theorem BB.l1.ws:PC BB.l1 (fun x o=>∀ lo c (Q:EP) (hb:∀ s:AC,o=s→Q (.exit 2) ⟨[(7,.v (.w s))],[]⟩),AK Tryz.prog 125 lo c 1 (VQ Q) ⟨[(0,.v (.slice .foreign (x.1.map AD.av))),(2,.v (.w x.2.1)),(4,.lref 4 0),(7,.v (.w x.2.2.1)),(9,.v (.i64 x.2.2.2.1))],[(4,[.v (.slice .foreign (x.2.2.2.2.Rows.map AV.w)),.v (.slice .foreign (x.2.2.2.2.Sel.map AV.w))])]⟩):=by
 refine BB.l1.partial_correctness _ ?_
 ·intro Sl QJ x o h
  have AFh:AH Sl _:=⟨QJ⟩
  intro lo c Q hb
  refine AK.step mix AAW (by kernel_rfl) ?_
  simp -implicitDefEqProofs only[go_sem,Tryz.f125]
  exact AR
instance BB.l1.w:type_of% (AH.mk BB.l1.ws):=⟨BB.l1.ws⟩
def BB (x:List AD × Ay × AC):Option (AC) :=
 BB.l0 (x.1,x.2.2,1#64,0,x.2.1)>>=fun (o13:AC) =>
 BB.l1 (x.1,x.2.2,o13,0,x.2.1)>>=fun (o26:AC) =>
 if(o26 == 0#64)=true then
  some (1#64)
 else
  some o26
instance BB.w:AH BB (fun x r=>Fn Tryz.prog 125 [.slice .foreign (x.1.map AD.av),.agg (Ay.C x.2.1),.w x.2.2] (.w r)):=⟨by
 intro x r h
 rw[BB] at h
 try dsimp only
 refine Fn.of_lc mix AAW AIe (by rfl) (flC (AT _ AD.flat _) (flC (Ay.flatC _) (flC (.atom _) (flN)))) (.atom _) ?_
 simp -implicitDefEqProofs only[go_sem,Tryz.f125]
 exact AR⟩
end
section
theorem AIJ:okF Tryz.f109=true:=by kernel_rfl
def De (x:Aq × AC):Option (AC) :=
 BB (x.1.Edges,x.1.Stats,x.2)>>=fun r1 =>
 some r1
instance De.w:AH De (fun x r=>Fn Tryz.prog 109 [.agg (Aq.C x.1),.w x.2] (.w r)):=⟨by
 intro x r h
 rw[De] at h
 try dsimp only
 refine Fn.of_lc mix AMV AIJ (by rfl) (flC (Aq.flatC _) (flC (.atom _) (flN))) (.atom _) ?_
 simp -implicitDefEqProofs only[go_sem,Tryz.f109]
 exact AR⟩
end
section
@[go_sem] theorem AOn:lrp Tryz.prog 74 3=(10,[]):=by kernel_rfl
@[go_sem] theorem APw:lrp Tryz.prog 74 5=(10,[]):=by kernel_rfl
theorem AL6:okF Tryz.f74=true:=by kernel_rfl
def FL (x:Aq × AC × AC × List AB):Option (AC) :=
 De (x.1,(x.2.1|||x.2.2.1))>>=fun r1 =>
 if(x.1.Kind == 2)=true then
  FA (x.1,x.2.1,x.2.2.1,x.2.2.2)>>=fun r4 =>
  if r4=true then
   De (x.1,x.2.1)>>=fun r7 =>
   De (x.1,x.2.2.1)>>=fun r9 =>
   Ed (r7,r9)>>=fun r11 =>
   Ed (r1,r11)>>=fun r13 =>
   some r13
  else
   De (x.1,x.2.1)>>=fun r15 =>
   De (x.1,x.2.2.1)>>=fun r17 =>
   GF (r15,r17)>>=fun r19 =>
   Ed (r1,r19)>>=fun r21 =>
   some r21
 else
  some r1
instance FL.w:AH FL (fun x r=>Fn Tryz.prog 74 [.agg (Aq.C x.1),.w x.2.1,.w x.2.2.1,.slice .foreign (x.2.2.2.map AB.av)] (.w r)):=⟨by
 intro x r h
 rw[FL] at h
 try dsimp only
 refine Fn.of_lc mix ANw AL6 (by rfl) (flC (Aq.flatC _) (flC (.atom _) (flC (.atom _) (flC (AT _ AB.flat _) (flN))))) (.atom _) ?_
 simp -implicitDefEqProofs only[go_sem,Tryz.f74]
 exact AR⟩
end
section
@[go_sem] theorem AOv:lrp Tryz.prog 36 3=(15,[]):=by kernel_rfl
@[go_sem] theorem APK:lrp Tryz.prog 36 4=(16,[]):=by kernel_rfl
theorem ALE:okF Tryz.f36=true:=by kernel_rfl
def CE (x:Aq × AA):Option (AC) :=
 if((x.2.Kids.length:Int) != 2)=true then
  some (0#64)
 else
  (x.2.Kids[0]?)>>=fun (e2:AA) =>
  Aj e2>>=fun r4 =>
  (x.2.Kids[1]?)>>=fun (e6:AA) =>
  Aj e6>>=fun r8 =>
  FL (x.1,r4,r8,x.2.Conj)>>=fun r10 =>
  CE (x.1,e2)>>=fun r12 =>
  CE (x.1,e6)>>=fun r14 =>
  Ed (r12,r14)>>=fun r16 =>
  Ed (r10,r16)>>=fun r18 =>
  some r18
 partial_fixpoint
theorem CE.ws:PC CE (fun x r=>Fn Tryz.prog 36 [.agg (Aq.C x.1),.agg (AA.C x.2)] (.w r)):=by
 refine CE.partial_correctness _ ?_
 ·intro Oe OQ x r h
  have ACd:AH Oe _:=⟨OQ⟩
  refine Fn.of_lc mix AMq ALE (by rfl) (flC (Aq.flatC _) (flC (AA.flatC _) (flN))) (.atom _) ?_
  simp -implicitDefEqProofs only[go_sem,Tryz.f36]
  exact AR
instance CE.w:type_of% (AH.mk CE.ws):=⟨CE.ws⟩
end
section
def Kw (e:AD):Bool:=e.Kind == 3 || e.Kind == 4
def Ct (l:List AD):AC:=l.foldl (fun s e=>if Kw e=true then s|||e.Right else s) 0#64
theorem AA1 (l:List AD):∀ s,l.foldl (fun s e=>if Kw e=true then s|||e.Right else s) s=s|||Ct l:=by
 have:∀ (l:List AD) (s:AC),l.foldl (fun s e=>if Kw e=true then s|||e.Right else s) s=s|||l.foldl (fun s e=>if Kw e=true then s|||e.Right else s) 0#64:=by
  intro l
  induction l with
  | nil=>intro s;simp
  | cons x l ih =>
   intro s
   simp only[List.foldl_cons]
   split
   ·rw[ih (s|||x.Right),ih (0#64|||x.Right),BitVec.zero_or,BitVec.or_assoc]
   ·exact ih s
 exact this l
theorem Yv (x:AD) (l:List AD):Ct (x :: l)=(if Kw x=true then x.Right else 0#64)|||Ct l:=by
 unfold Ct
 simp only[List.foldl_cons]
 rw[AA1]
 split <;> simp <;> rfl
theorem ABF (l:List AD) (i:Nat):(Ct l).getLsbD i=l.any fun e=>Kw e&&e.Right.getLsbD i:=by
 induction l with
 | nil=>simp[Ct]
 | cons x l ih =>
  rw[Yv,BitVec.getLsbD_or,ih,List.any_cons]
  cases Kw x <;> simp
theorem NM (l:List AD) (hl:l.length<9223372036854775808):Bd l=some (Ct l):=by
 have key:=In l (fun i (s:AC)=>Bd.l0 (s,l,(l.length:Int),(i:Int))) (fun s l=>some (l.foldl (fun s e=>if Kw e=true then s|||e.Right else s) s)) (fun s=>by
   show Bd.l0 _=_
   rw[Bd.l0,if_neg (dge (by dsimp only;omega))];rfl)
  (fun i s h ih=>by
   show Bd.l0 _=_
   rw[Bd.l0,if_pos (dlt (by dsimp only;omega))]
   dsimp only
   rw[Ai h]
   simp only[Option.bind_eq_bind,Option.bind_some,List.foldl_cons]
   rw[Aa (by omega)]
   try dsimp only at ih
   rw[ih,ih]
   unfold Kw
   cases h3:l[i].Kind == 3 <;> cases h4:l[i].Kind == 4 <;> simp) 0#64
 unfold Bd
 have key':Bd.l0 (0#64,l,(l.length:Int),0)=some (Ct l):=key
 rw[key'];rfl
def AMr (b:Bool):Lp Unit Bool:=bif b then .ret true else .brk ()
theorem NV (l:List AD) (hl:l.length<9223372036854775808) (k:Nat) (hk:k<64):Bc (l,(k:Int))=some ((Ct l).getLsbD k):=by
 have key:=In l (fun i (_:Unit)=>Bc.l0 (l,(k:Int),(i:Int))) (fun _ l=>some (AMr (l.any fun e=>Kw e&&e.Right.getLsbD k))) (fun s=>by
   show Bc.l0 _=_
   rw[Bc.l0,if_neg (dge (by dsimp only;omega))];rfl)
  (fun i s h ih=>by
   show Bc.l0 _=_
   rw[Bc.l0,if_pos (dlt (by dsimp only;omega))]
   dsimp only
   rw[Ai h]
   simp only[Option.bind_eq_bind,Option.bind_some]
   rw[Aa (by omega)]
   have ih:=ih ()
   try dsimp only at ih
   rw[ih,FD,DW _ _ hk,List.any_cons]
   simp only[Option.bind_some]
   generalize (l.drop (i+1)).any _=R
   have e:Kw l[i]=(l[i].Kind == 3 || l[i].Kind == 4):=rfl
   rw[e]
   cases (l[i].Kind == 3) <;> cases (l[i].Kind == 4) <;> cases l[i].Right.getLsbD k <;> cases R <;> rfl) ()
 unfold Bc
 have key':Bc.l0 (l,(k:Int),0)=_:=key
 dsimp only
 rw[key',← ABF]
 simp only[Option.bind_eq_bind,Option.bind_some]
 cases (Ct l).getLsbD k <;> rfl
theorem VZ (l:List AD) (hl:l.length<9223372036854775808):Bz l=some (Ct l):=by
 have key:∀ n i,64 - i=n→i≤64→Bz.l0 (l,(((List.range i).filter fun j=>(Ct l).getLsbD j).map fun (j:Nat)=>(j:Int)),(i:Int))=some (BS (Ct l)):=by
  intro n
  induction n with
  | zero =>
   intro i h1 h2
   obtain rfl:i=64:=by omega
   rw[Bz.l0,if_neg (dge (by dsimp only;omega))];rfl
  | succ n ih =>
   intro i h1 h2
   rw[Bz.l0,if_pos (dlt (by dsimp only;omega))]
   dsimp only
   rw[NV l hl i (by omega)]
   simp only[Option.bind_eq_bind,Option.bind_some]
   have ih:=ih (i+1) (by omega) (by omega)
   rw[List.range_succ,List.filter_append] at ih
   rw[Aa (by omega)]
   have hlen:(((List.range i).filter fun j=>(Ct l).getLsbD j).map fun (j:Nat)=>(j:Int)).length≤64:=by
    rw[List.length_map];exact Nat.le_trans (List.length_filter_le _ _) (by simp;omega)
   cases hb:(Ct l).getLsbD i with
   | true =>
    rw[if_pos rfl,Bt (by simp only[List.length_cons,List.length_nil];omega)]
    simp only[Option.bind_some]
    simp[hb] at ih ⊢
    exact ih
   | false =>
    rw[if_neg (by simp)]
    simp[hb] at ih ⊢
    exact ih
 unfold Bz
 have h:=key 64 0 (by omega) (by omega)
 have h':Bz.l0 (l,([]:List Int),0)=some (BS (Ct l)):=h
 rw[h']
 simp only[Option.bind_eq_bind,Option.bind_some]
 have hml:(BS (Ct l)).length≤64:=by
  unfold BS
  rw[List.length_map];exact Nat.le_trans (List.length_filter_le _ _) (by simp)
 rw[Jg _ (by omega)]
 simp only[Option.bind_some]
 congr 1
 apply BitVec.eq_of_getLsbD_eq
 intro j hj
 rw[Rt _ j hj]
 unfold BS
 rw[Bool.eq_iff_iff,List.any_eq_true]
 constructor
 ·rintro⟨x,hx,he⟩
  obtain⟨k,hk,rfl⟩:=List.mem_map.1 hx
  have he:=of_decide_eq_true he
  obtain rfl:k=j:=by omega
  exact(List.mem_filter.1 hk).2
 ·intro h
  exact⟨(j:Int),List.mem_map.2 ⟨j,List.mem_filter.2 ⟨by simpa using hj,h⟩,rfl⟩,by simp⟩
def GS (rows:List AC) (s:AC) (n:AC) (i:Nat):AC:=if s.getLsbD i=true∧i<rows.length then DM (n.toNat * (rows.getD i 0#64).toNat) else n
def JK (set:AC) (n:AC) (p:AD × AC):AC:=if inS p.1.Uses set=true then DM (n.toNat * p.2.toNat / 65536) else n
def Kp (l:List AD) (st:Ay) (set:AC):AC:=Yz 1#64 ((l.zip st.Sel).foldl (JK set) ((List.range 64).foldl (GS st.Rows (set&&&~~~Ct l)) 1#64))
theorem Mr (s:AC):Bw s=some (BS s):=by
 have key:∀ (l acc:List Int),acc.length+l.length≤1000000→Bw.r0 (l,acc)=some (acc++l):=by
  intro l
  induction l with
  | nil=>intro acc _;rw[Bw.r0];simp
  | cons x l ih =>
   intro acc h
   rw[Bw.r0]
   dsimp only
   simp only[List.length_cons] at h
   rw[Bt (by simp only[List.length_cons,List.length_nil];omega)]
   simp only[Option.bind_eq_bind,Option.bind_some]
   rw[ih _ (by simp;omega)]
   simp
 unfold Bw Ho
 have hml:(BS s).length≤64:=by
  unfold BS
  rw[List.length_map];exact Nat.le_trans (List.length_filter_le _ _) (by simp)
 simp only[Option.bind_eq_bind,Option.bind_some]
 rw[key _ _ (by simp;omega)];rfl
theorem Ta (l:List AC) (hl:l.length<9223372036854775808):Bf l=some (l.foldl (fun n x=>DM (n.toNat * x.toNat)) 1#64):=by
 have key:=In l (fun i (s:AC)=>Bf.l0 (s,l,(l.length:Int),(i:Int))) (fun s l=>some (l.foldl (fun n x=>DM (n.toNat * x.toNat)) s)) (fun s=>by
   show Bf.l0 _=_
   rw[Bf.l0,if_neg (dge (by dsimp only;omega))];rfl)
  (fun i s h ih=>by
   show Bf.l0 _=_
   rw[Bf.l0,if_pos (dlt (by dsimp only;omega))]
   dsimp only
   rw[Ai h]
   simp only[Option.bind_eq_bind,Option.bind_some,VG]
   rw[Aa (by omega)]
   exact ih _) 1#64
 unfold Bf
 have key':Bf.l0 (1#64,l,(l.length:Int),0)=_:=key
 rw[key'];rfl
def HO (rows:List AC) (e:Int):Option AC:=if e<(rows.length:Int) then AU rows e else none
theorem YM (l:List AD) (st:Ay) (set:AC) (ms:List Int) (hm:∀ e∈ms,0≤e) (hl:ms.length≤1000000):Ax.l0 (([]:List AC),ms,(ms.length:Int),0,l,st,set)=some (ms.filterMap (HO st.Rows)):=by
 have:=Gb ms (fun i acc=>acc.length≤i) (fun i (acc:List AC)=>Ax.l0 (acc,ms,(ms.length:Int),(i:Int),l,st,set)) (fun acc l=>some (acc++l.filterMap (HO st.Rows)))
  (fun acc ha=>by
   show Ax.l0 _=_
   rw[Ax.l0,if_neg (dge (by dsimp only;omega))]
   simp)
  (fun i acc h ha ih2=>by
   show Ax.l0 _=_
   rw[Ax.l0,if_pos (dlt (by dsimp only;omega))]
   dsimp only
   rw[Ai h]
   simp only[Option.bind_eq_bind,Option.bind_some]
   rw[Aa (by omega)]
   have h0:=hm _ (List.getElem_mem h)
   by_cases hx:ms[i]<(st.Rows.length:Int)
   ·rw[if_pos (dlt hx)]
    obtain⟨k,hk⟩:∃ k:Nat,ms[i]=k:=⟨ms[i].toNat,by omega⟩
    have hkl:k<st.Rows.length:=by omega
    rw[hk,Ai hkl]
    simp only[Option.bind_some]
    rw[Bt (by simp;omega)]
    simp only[Option.bind_some]
    have:=ih2 (acc++[st.Rows[k]]) (by simp;omega)
    try dsimp only at this
    rw[this,List.filterMap_cons]
    have e:HO st.Rows (k:Int)=some st.Rows[k]:=by unfold HO;rw[if_pos (by omega),Ai hkl]
    rw[e];simp
   ·rw[if_neg (dge hx)]
    have:=ih2 acc (by omega)
    try dsimp only at this
    rw[this,List.filterMap_cons]
    have e:HO st.Rows ms[i]=none:=by unfold HO;rw[if_neg hx]
    rw[e]) 0 [] (Nat.zero_le _) (by simp)
 rw[List.drop_zero,List.nil_append] at this
 exact this
theorem AB1 (rows:List AC) (s:AC):∀ (is:List Nat) (n:AC),(((is.filter fun i=>s.getLsbD i).map fun (i:Nat)=>(i:Int)).filterMap (HO rows)).foldl (fun n x=>DM (n.toNat * x.toNat)) n=is.foldl (GS rows s) n:=by
 intro is
 induction is with
 | nil=>intro n;rfl
 | cons i is ih =>
  intro n
  simp only[List.foldl_cons]
  cases hb:s.getLsbD i with
  | false =>
   rw[List.filter_cons_of_neg (by simp[hb]),ih]
   unfold GS;rw[hb];simp
  | true =>
   rw[List.filter_cons_of_pos hb,List.map_cons,List.filterMap_cons]
   by_cases hl:i<rows.length
   ·have e:HO rows (i:Int)=some rows[i]:=by unfold HO;rw[if_pos (by omega),Ai hl]
    rw[e]
    simp only[List.foldl_cons,ih]
    have e2:GS rows s n i=DM (n.toNat * rows[i].toNat):=by
     unfold GS;rw[if_pos ⟨hb,hl⟩];simp[List.getD_eq_getElem?_getD,List.getElem?_eq_getElem hl]
    rw[e2]
   ·have e:HO rows (i:Int)=none:=by unfold HO;rw[if_neg (by omega)]
    rw[e]
    simp only[ih]
    have e2:GS rows s n i=n:=by unfold GS;rw[if_neg (fun h=>hl h.2)]
    rw[e2]
theorem OD (set:AC) (l:List AD) (sel:List AC) (i:Nat) (h:sel.length≤i) (n:AC):((l.drop i).zip (sel.drop i)).foldl (JK set) n=n:=by
 rw[List.drop_eq_nil_of_le h,List.zip_nil_right];rfl
theorem Xn (l:List AD) (st:Ay) (set:AC) (n:AC) (hl:l.length<9223372036854775808):Ax.l1 (n,(l.length:Int),0,l,st,set)=some ((l.zip st.Sel).foldl (JK set) n):=by
 have key:∀ k i n,l.length - i=k→i≤l.length→Ax.l1 (n,(l.length:Int),(i:Int),l,st,set)=some (((l.drop i).zip (st.Sel.drop i)).foldl (JK set) n):=by
  intro k
  induction k with
  | zero =>
   intro i n h1 h2
   obtain rfl:i=l.length:=by omega
   rw[Ax.l1,if_neg (dge (by dsimp only;omega)),List.drop_length];rfl
  | succ k ih =>
   intro i n h1 h2
   have h:i<l.length:=by omega
   rw[Ax.l1,if_pos (dlt (by dsimp only;omega))]
   dsimp only
   unfold Gn
   dsimp only
   rw[Ai h,Aa (by omega),List.drop_eq_getElem_cons h]
   simp only[Option.bind_eq_bind,Option.bind_some]
   by_cases hs:i<st.Sel.length
   ·rw[if_pos (dlt (by omega)),List.drop_eq_getElem_cons hs,Ai hs]
    have e:Dx (l[i].Uses,set)=some (inS l[i].Uses set):=rfl
    rw[e]
    simp only[Option.bind_some,AAU,List.zip_cons_cons,List.foldl_cons]
    rw[ih (i+1) _ (by omega) (by omega),ih (i+1) _ (by omega) (by omega)]
    unfold JK
    cases inS l[i].Uses set <;> rfl
   ·rw[if_neg (dge (by omega))]
    simp only[Option.bind_some]
    rw[if_neg (by simp),ih (i+1) _ (by omega) (by omega),OD _ _ _ _ (by omega),List.drop_eq_nil_of_le (show st.Sel.length≤i by omega),List.zip_nil_right];rfl
 exact key l.length 0 n (by omega) (by omega)
theorem AA2 (s:AC):∀ e∈BS s,0≤e:=by
 intro e he
 obtain⟨k,_,rfl⟩:=List.mem_map.1 he
 omega
theorem AG9 (s:AC):(BS s).length≤64:=by
 unfold BS
 rw[List.length_map];exact Nat.le_trans (List.length_filter_le _ _) (by simp)
theorem YA (l:List AD) (st:Ay) (set:AC) (hl:l.length<9223372036854775808):Ax (l,st,set)=some (Kp l st set):=by
 unfold Ax
 dsimp only
 rw[NM l hl]
 simp only[Option.bind_eq_bind,Option.bind_some,Mr]
 have hml:=AG9 (set&&&~~~Ct l)
 rw[YM l st set _ (AA2 _) (by omega)]
 simp only[Option.bind_some]
 have hfl:((BS (set&&&~~~Ct l)).filterMap (HO st.Rows)).length≤64:=Nat.le_trans (List.length_filterMap_le _ _) hml
 rw[Ta _ (by omega)]
 simp only[Option.bind_some]
 rw[Xn l st set _ hl]
 simp only[Option.bind_some]
 unfold Kp BS
 rw[AB1]
theorem YR (l:List AD) (st:Ay) (set:AC) (hl:l.length<9223372036854775808):BB.l0 (l,set,1#64,0,st)=some ((List.range 64).foldl (GS st.Rows (set&&&~~~Ct l)) 1#64):=by
 have past:∀ (k i:Nat) (n:AC),st.Rows.length≤i→(List.range' i k).foldl (GS st.Rows (set&&&~~~Ct l)) n=n:=by
  intro k
  induction k with
  | zero=>intro i n _;rfl
  | succ k ih =>
   intro i n h
   rw[List.range'_succ,List.foldl_cons]
   have:GS st.Rows (set&&&~~~Ct l) n i=n:=by unfold GS;rw[if_neg (by omega)]
   rw[this];exact ih (i+1) n (by omega)
 have key:∀ (k i:Nat) (n:AC),64 - i=k→i≤64→BB.l0 (l,set,n,(i:Int),st)=some ((List.range' i k).foldl (GS st.Rows (set&&&~~~Ct l)) n):=by
  intro k
  induction k with
  | zero =>
   intro i n h1 h2
   obtain rfl:i=64:=by omega
   rw[BB.l0,if_neg (dge (by dsimp only;omega))];rfl
  | succ k ih =>
   intro i n h1 h2
   have hi:i<64:=by omega
   rw[BB.l0,if_pos (dlt (by dsimp only;omega))]
   dsimp only
   by_cases hs:i<st.Rows.length
   ·rw[if_pos (dlt (by omega)),FD,DW _ _ hi,NV l hl i hi,Ai hs,Aa (by omega),List.range'_succ,List.foldl_cons]
    simp only[Option.bind_eq_bind,Option.bind_some,Mm]
    rw[ih (i+1) _ (by omega) (by omega),ih (i+1) _ (by omega) (by omega)]
    have e:GS st.Rows (set&&&~~~Ct l) n i=if set.getLsbD i=true then(if(Ct l).getLsbD i=true then n else DM (n.toNat * st.Rows[i].toNat)) else n:=by
     unfold GS
     simp only[BitVec.getLsbD_and,BitVec.getLsbD_not,hi,decide_true,Bool.true_and,hs,and_true]
     have eg:st.Rows.getD i 0#64=st.Rows[i]:=by simp[List.getD_eq_getElem?_getD,List.getElem?_eq_getElem hs]
     rw[eg]
     cases set.getLsbD i <;> cases (Ct l).getLsbD i <;> simp
    rw[e]
    cases set.getLsbD i <;> cases (Ct l).getLsbD i <;> simp
   ·rw[if_neg (dge (by omega)),past _ _ _ (by omega)]
 have:=key 64 0 1#64 (by omega) (by omega)
 rw[List.range_eq_range'];exact this
theorem YB (l:List AD) (st:Ay) (set:AC) (n:AC) (hl:l.length<9223372036854775808):BB.l1 (l,set,n,0,st)=some ((l.zip st.Sel).foldl (JK set) n):=by
 have key:∀ k i n,l.length - i=k→i≤l.length→BB.l1 (l,set,n,(i:Int),st)=some (((l.drop i).zip (st.Sel.drop i)).foldl (JK set) n):=by
  intro k
  induction k with
  | zero =>
   intro i n h1 h2
   obtain rfl:i=l.length:=by omega
   rw[BB.l1,if_neg (dge (by dsimp only;omega)),List.drop_length];rfl
  | succ k ih =>
   intro i n h1 h2
   have h:i<l.length:=by omega
   rw[BB.l1,if_pos (dlt (by dsimp only;omega))]
   dsimp only
   by_cases hs:i<st.Sel.length
   ·rw[if_pos (dlt (by omega)),Ai h,Ai hs,Aa (by omega),List.drop_eq_getElem_cons h,List.drop_eq_getElem_cons hs]
    simp only[Option.bind_eq_bind,Option.bind_some,Jl,WH,List.zip_cons_cons,List.foldl_cons]
    rw[ih (i+1) _ (by omega) (by omega),ih (i+1) _ (by omega) (by omega)]
    unfold JK
    cases inS l[i].Uses set <;> rfl
   ·rw[if_neg (dge (by omega)),OD _ _ _ _ (by omega)]
 exact key l.length 0 n (by omega) (by omega)
theorem YS (l:List AD) (st:Ay) (set:AC) (hl:l.length<9223372036854775808):BB (l,st,set)=some (Kp l st set):=by
 unfold BB Kp
 dsimp only
 rw[YR l st set hl]
 simp only[Option.bind_eq_bind,Option.bind_some]
 rw[YB l st set _ hl]
 simp only[Option.bind_some]
 generalize List.foldl (JK set) _ _=z
 unfold Yz
 by_cases h:z=0#64
 ·subst h;decide
 ·rw[if_neg (by simpa using h)]
  by_cases h1:z > 1#64
  ·rw[if_pos h1]
  ·rw[if_neg h1]
   congr 1
   apply BitVec.eq_of_toNat_eq
   have h1:¬ (1#64).toNat<z.toNat:=h1
   have h2:z.toNat≠0:=fun e=>h (BitVec.eq_of_toNat_eq (by simpa using e))
   simp only[BitVec.toNat_ofNat] at h1 ⊢;omega
end
section
def Rp (a b:AC) (p:AB):Option AW :=
 if p.Kind=2∧p.Op=1∧p.A.Kind=1∧p.B.Kind=1 then
  (if Ad a p.A.Table=true∧Ad b p.B.Table=true then some ⟨p.A,p.B⟩ else if Ad a p.B.Table=true∧Ad b p.A.Table=true then some ⟨p.B,p.A⟩ else none)
 else none
theorem Hu {a b:AC} {p:AB} (h:¬ (p.Kind=2∧p.Op=1∧p.A.Kind=1∧p.B.Kind=1)):Rp a b p=none:=if_neg h
theorem XJ {a b:AC} {p:AB} (h:p.Kind=2∧p.Op=1∧p.A.Kind=1∧p.B.Kind=1):Rp a b p=(bif Ad a p.A.Table&&Ad b p.B.Table then some ⟨p.A,p.B⟩ else bif Ad a p.B.Table&&Ad b p.A.Table then some ⟨p.B,p.A⟩ else none):=by
 unfold Rp
 rw[if_pos h]
 cases Ad a p.A.Table <;> cases Ad b p.B.Table <;> cases Ad a p.B.Table <;> cases Ad b p.A.Table <;> simp
def VR (conj:List AB) (a b:AC):List AW:=conj.filterMap (Rp a b)
theorem Yx (conj:List AB) (a b:AC) (hl:conj.length≤1000000000):Ba (conj,a,b)=some (VR conj a b):=by
 have key:=Gb conj (fun i acc=>acc.length≤i) (fun i (acc:List AW)=>Ba.l0 (a,b,acc,conj,(conj.length:Int),(i:Int))) (fun acc l=>some (acc++l.filterMap (Rp a b)))
  (fun acc ha=>by
   show Ba.l0 _=_
   rw[Ba.l0,if_neg (dge (by dsimp only;omega))]
   simp)
  (fun i acc h ha ih=>by
   show Ba.l0 _=_
   rw[Ba.l0,if_pos (dlt (by dsimp only;omega))]
   dsimp only
   rw[Ai h,List.filterMap_cons]
   simp only[Option.bind_eq_bind,Option.bind_some,AAg]
   rw[Aa (by omega)]
   try dsimp only at ih
   have i0:=ih acc (by omega)
   have i1:=fun t=>ih (acc++[t]) (by simp;omega)
   have rm:∀ t:AW,room 80 acc [t]=some (acc++[t]):=fun t=>Bt (by simp;omega)
   simp only[i0,i1,rm,Option.bind_some]
   by_cases c1:conj[i].Kind=2
   ·by_cases c2:conj[i].Op=1
    ·by_cases c3:conj[i].A.Kind=1
     ·by_cases c4:conj[i].B.Kind=1
      ·rw[if_neg (by simpa using c1),if_neg (by simpa using c2),if_neg (by simpa using c3),if_neg (by simpa using c4),XJ ⟨c1,c2,c3,c4⟩]
       cases Ad a conj[i].A.Table <;> cases Ad b conj[i].B.Table <;> cases Ad a conj[i].B.Table <;> cases Ad b conj[i].A.Table <;> simp
      ·rw[if_neg (by simpa using c1),if_neg (by simpa using c2),if_neg (by simpa using c3),if_pos (by simpa using c4),Hu (fun h=>c4 h.2.2.2)]
     ·rw[if_neg (by simpa using c1),if_neg (by simpa using c2),if_pos (by simpa using c3),Hu (fun h=>c3 h.2.2.1)]
    ·rw[if_neg (by simpa using c1),if_pos (by simpa using c2),Hu (fun h=>c2 h.2.1)]
   ·rw[if_pos (by simpa using c1),Hu (fun h=>c1 h.1)]) 0 [] (Nat.zero_le _) (by simp)
 unfold Ba
 rw[List.drop_zero,List.nil_append] at key
 have key':Ba.l0 (a,b,([]:List AW),conj,(conj.length:Int),0)=some (VR conj a b):=key
 dsimp only
 rw[key'];rfl
theorem Xk (conj:List AB) (a b:AC) (hl:conj.length≤1000000000):BP (conj,a,b)=some (VR conj a b):=by
 have key:=Gb conj (fun i acc=>acc.length≤i) (fun i (acc:List AW)=>BP.l0 (conj,a,b,acc,(i:Int))) (fun acc l=>some (acc++l.filterMap (Rp a b)))
  (fun acc ha=>by
   show BP.l0 _=_
   rw[BP.l0,if_neg (dge (by dsimp only;omega))]
   simp)
  (fun i acc h ha ih=>by
   show BP.l0 _=_
   rw[BP.l0,if_pos (dlt (by dsimp only;omega))]
   dsimp only
   rw[Ai h,List.filterMap_cons]
   simp only[Option.bind_eq_bind,Option.bind_some,FD]
   rw[Aa (by omega)]
   try dsimp only at ih
   have i0:=ih acc (by omega)
   have i1:=fun t=>ih (acc++[t]) (by simp;omega)
   have rm:∀ t:AW,room 80 acc [t]=some (acc++[t]):=fun t=>Bt (by simp;omega)
   simp only[i0,i1,rm,Option.bind_some]
   by_cases c1:conj[i].Kind=2
   ·by_cases c2:conj[i].Op=1
    ·by_cases c3:conj[i].A.Kind=1
     ·by_cases c4:conj[i].B.Kind=1
      ·rw[if_neg (by simpa using c1),if_neg (by simpa using c2),if_neg (by simpa using c3),if_neg (by simpa using c4),XJ ⟨c1,c2,c3,c4⟩]
       cases Ad a conj[i].A.Table <;> cases Ad b conj[i].B.Table <;> cases Ad a conj[i].B.Table <;> cases Ad b conj[i].A.Table <;> simp
      ·rw[if_neg (by simpa using c1),if_neg (by simpa using c2),if_neg (by simpa using c3),if_pos (by simpa using c4),Hu (fun h=>c4 h.2.2.2)]
     ·rw[if_neg (by simpa using c1),if_neg (by simpa using c2),if_pos (by simpa using c3),Hu (fun h=>c3 h.2.2.1)]
    ·rw[if_neg (by simpa using c1),if_pos (by simpa using c2),Hu (fun h=>c2 h.2.1)]
   ·rw[if_pos (by simpa using c1),Hu (fun h=>c1 h.1)]) 0 [] (Nat.zero_le _) (by simp)
 unfold BP
 rw[List.drop_zero,List.nil_append] at key
 have key':BP.l0 (conj,a,b,([]:List AW),0)=some (VR conj a b):=key
 dsimp only
 rw[key'];rfl
def ND (k:Int) (l:List AD) (a b:AC) (conj:List AB):Bool:=k == 2&&decide (0<(VR conj (a&&&~~~Ct l) (b&&&~~~Ct l)).length)
def BL (k:Int) (l:List AD) (st:Ay) (a b:AC) (conj:List AB):AC :=
 if k=2 then(if ND k l a b conj=true then DM ((Kp l st a).toNat+(Kp l st b).toNat+(Kp l st (a|||b)).toNat) else DM ((Kp l st a).toNat * (Kp l st b).toNat+(Kp l st (a|||b)).toNat)) else Kp l st (a|||b)
section
variable (m:AZ) (r:Aq) (a b:AC) (conj:List AB)
theorem YU (hE:m.Edges.length<9223372036854775808) (hl:conj.length≤1000000000):FP (m,a,b,conj)=some (ND m.Kind m.Edges a b conj):=by
 unfold FP ND
 dsimp only
 rw[NM _ hE]
 simp only[Option.bind_eq_bind,Option.bind_some,Yx _ _ _ hl]
 by_cases h:m.Kind=2
 ·rw[if_pos (by simpa using h)]
  simp[h]
 ·rw[if_neg (by simpa using h)]
  simp[h]
theorem WZ (hE:r.Edges.length<9223372036854775808) (hl:conj.length≤1000000000):FA (r,a,b,conj)=some (ND r.Kind r.Edges a b conj):=by
 unfold FA ND
 dsimp only
 rw[VZ _ hE]
 simp only[Option.bind_eq_bind,Option.bind_some,Xk _ _ _ hl]
 by_cases h:r.Kind=2
 ·rw[if_pos (by simpa using h)]
  simp[h]
 ·rw[if_neg (by simpa using h)]
  simp[h]
theorem Ql (m n:Nat):DM (n+(DM m).toNat)=DM (m+n):=by rw[Nat.add_comm,TV]
theorem AAA (hE:m.Edges.length<9223372036854775808) (hl:conj.length≤1000000000):Er (m,a,b,conj)=some (BL m.Kind m.Edges m.Stats a b conj):=by
 unfold Er Gu Do BL
 dsimp only
 simp -implicitDefEqProofs only[YA _ _ _ hE,YU m a b conj hE hl,Option.bind_eq_bind,Option.bind_some]
 by_cases h:m.Kind=2
 ·rw[if_neg (by simpa using h),if_pos h]
  cases ND m.Kind m.Edges a b conj with
  | true =>
   simp -implicitDefEqProofs only[if_true,Option.bind_some]
   rw[if_pos (by decide),OT _ (by simp)]
   simp -implicitDefEqProofs only[Option.bind_some]
   congr 2;simp[PD];omega
  | false =>
   simp -implicitDefEqProofs only[Bool.false_eq_true,if_false,Option.bind_some]
   rw[if_neg (by decide),if_pos (by decide),VG]
   simp -implicitDefEqProofs only[Option.bind_some]
   rw[OT _ (by simp)]
   simp -implicitDefEqProofs only[Option.bind_some]
   congr 1
   rw[← TV]
   simp[PD]
 ·rw[if_pos (by simpa using h),if_neg h]
  simp -implicitDefEqProofs only[Option.bind_some]
  rw[if_neg (by decide),if_neg (by decide)]
theorem Xo (hE:r.Edges.length<9223372036854775808) (hl:conj.length≤1000000000):FL (r,a,b,conj)=some (BL r.Kind r.Edges r.Stats a b conj):=by
 unfold FL De BL
 dsimp only
 simp -implicitDefEqProofs only[YS _ _ _ hE,WZ r a b conj hE hl,Option.bind_eq_bind,Option.bind_some]
 by_cases h:r.Kind=2
 ·rw[if_pos (by simpa using h),if_pos h]
  cases ND r.Kind r.Edges a b conj with
  | true =>
   simp -implicitDefEqProofs only[if_true,Ki,Option.bind_some,Ql]
  | false =>
   simp -implicitDefEqProofs only[Bool.false_eq_true,if_false,Mm,Ki,Option.bind_some,Ql]
 ·rw[if_neg (by simpa using h),if_neg h]
end
def CA (f:AC→AC→List AB→AC):AA→AC
 | ⟨_,_,[x,y],c,_⟩=>DM ((CA f x).toNat+(CA f y).toNat+(f (AX x) (AX y) c).toNat)
 | _=>0#64
theorem NS (f:AC→AC→List AB→AC) {t x y:AA} (h:t.Kids=[x,y]):CA f t=DM ((CA f x).toNat+(CA f y).toNat+(f (AX x) (AX y) t.Conj).toNat):=by
 obtain⟨a,b,ks,c,d⟩:=t
 dsimp only at h
 subst h
 rw[CA]
theorem MI (f:AC→AC→List AB→AC) {t:AA} (h:t.Kids.length≠2):CA f t=0#64:=by
 obtain⟨a,b,ks,c,d⟩:=t
 dsimp only at h
 rw[CA]
 rintro a' b' x y c' d' e
 injection e with _ _ e
 subst e
 simp at h
theorem EO {t:AA} (h:t.Kids.length=2):∃ x y,t.Kids=[x,y]:=by
 match hk:t.Kids with
 | [x,y]=>exact⟨x,y,rfl⟩
 | []=>rw[hk] at h;cases h
 | [_]=>rw[hk] at h;cases h
 | _ :: _ :: _ :: _=>rw[hk] at h;simp at h
theorem Lr (r:Aq) (hE:r.Edges.length<9223372036854775808) (t:AA):t.size≤1000000000→CE (r,t)=some (CA (BL r.Kind r.Edges r.Stats) t):=by
 induction t using AA.induct with
 | h t ih =>
  intro hsz
  rw[CE]
  dsimp only
  by_cases h:t.Kids.length=2
  ·obtain⟨x,y,hk⟩:=EO h
   have hx:x∈t.Kids:=by rw[hk];simp
   have hy:y∈t.Kids:=by rw[hk];simp
   have hcl:=LI t
   have hxs:=Cc hx
   have hys:=Cc hy
   rw[if_neg (by simp[h])]
   rw[NS _ hk]
   simp -implicitDefEqProofs only[hk,List.getElem?_cons_zero,List.getElem?_cons_succ,Option.bind_eq_bind,Option.bind_some]
   rw[Cz x (by omega),Cz y (by omega)]
   simp -implicitDefEqProofs only[Option.bind_some]
   rw[Xo r _ _ _ hE (by omega)]
   simp -implicitDefEqProofs only[Option.bind_some]
   rw[ih x hx (by omega),ih y hy (by omega)]
   simp -implicitDefEqProofs only[Option.bind_some,Ki]
   rw[Ql]
  ·rw[if_pos (by simp;omega),MI _ h]
end
section
def EN (a b:AC):Int:=if a.toNat<b.toNat then -1 else if b.toNat<a.toNat then 1 else 0
def lex (c d:Int):Int:=if c=0 then d else c
abbrev If:=AC→AC→List AB→AC
def Cq (f:If):AA→AA→Int
 | ⟨k,t,[x,y],c,h⟩,b=>lex (EN (CA f ⟨k,t,[x,y],c,h⟩) (CA f b)) (match b.Kids with
  | [u,v]=>lex (EN (AX x) (AX u)) (lex (Cq f x u) (Cq f y v))
  | _=>1)
 | a,b=>lex (EN (CA f a) (CA f b)) (if b.Kids.length=2 then -1 else EN (AX a) (AX b))
theorem GR (f:If) {a b x y u v:AA} (ha:a.Kids=[x,y]) (hb:b.Kids=[u,v]):Cq f a b=lex (EN (CA f a) (CA f b)) (lex (EN (AX x) (AX u)) (lex (Cq f x u) (Cq f y v))):=by
 obtain⟨a1,a2,ks,a3,a4⟩:=a
 dsimp only at ha
 subst ha
 rw[Cq,hb]
theorem Hp (f:If) {a b x y:AA} (ha:a.Kids=[x,y]) (hb:b.Kids.length≠2):Cq f a b=lex (EN (CA f a) (CA f b)) 1:=by
 obtain⟨a1,a2,ks,a3,a4⟩:=a
 dsimp only at ha
 subst ha
 rw[Cq]
 congr 1
 split
 ·rename_i h;rw[h] at hb;simp at hb
 ·rfl
theorem FK (f:If) {a b:AA} (ha:a.Kids.length≠2):Cq f a b=lex (EN (CA f a) (CA f b)) (if b.Kids.length=2 then -1 else EN (AX a) (AX b)):=by
 obtain⟨a1,a2,ks,a3,a4⟩:=a
 dsimp only at ha
 rw[Cq]
 rintro a' b' x y c' d' e
 injection e with _ _ e
 subst e
 simp at ha
def Tri (p q r:Int):Prop:=(p≤0→q≤0→r≤0∧(p<0∨q<0→r<0))∧(0≤p→0≤q→0≤r∧(0<p∨0<q→0<r))
theorem Tri.lex {p q r p' q' r':Int} (h:Tri p q r) (k:Tri p' q' r'):Tri (lex p p') (lex q q') (lex r r'):=by
 unfold Tri G.lex at *
 split <;> split <;> split <;> omega
theorem Jn (a b c:AC):Tri (EN a b) (EN b c) (EN a c):=by
 unfold Tri EN
 split <;> split <;> split <;> (try split) <;> (try split) <;> (try split) <;> omega
theorem MS (a b:AC):EN b a = - EN a b:=by
 unfold EN
 split <;> split <;> (try split) <;> omega
theorem LK {c d c' d':Int} (h:c' = - c) (k:d' = - d):lex c' d' = - lex c d:=by
 unfold lex
 split <;> split <;> omega
theorem Td (f:If):∀ (n:Nat) (a b:AA),a.size≤n→b.size≤n→Cq f b a = - Cq f a b:=by
 intro n
 induction n with
 | zero=>intro a b h;have:=KZ a;omega
 | succ n ih =>
  intro a b h1 h2
  by_cases ha:a.Kids.length=2
  ·obtain⟨x,y,hx⟩:=EO ha
   by_cases hb:b.Kids.length=2
   ·obtain⟨u,v,hu⟩:=EO hb
    have e1:=Cc (t:=a) (y:=x) (by rw[hx];simp)
    have e2:=Cc (t:=a) (y:=y) (by rw[hx];simp)
    have e3:=Cc (t:=b) (y:=u) (by rw[hu];simp)
    have e4:=Cc (t:=b) (y:=v) (by rw[hu];simp)
    rw[GR f hx hu,GR f hu hx]
    exact LK (MS _ _) (LK (MS _ _) (LK (ih _ _ (by omega) (by omega)) (ih _ _ (by omega) (by omega))))
   ·rw[Hp f hx hb,FK f hb,if_pos ha]
    exact LK (MS _ _) rfl
  ·by_cases hb:b.Kids.length=2
   ·obtain⟨u,v,hu⟩:=EO hb
    rw[Hp f hu ha,FK f ha,if_pos hb]
    exact LK (MS _ _) rfl
   ·rw[FK f ha,FK f hb,if_neg ha,if_neg hb]
    exact LK (MS _ _) (MS _ _)
theorem AIH (f:If):∀ (n:Nat) (a b c:AA),a.size≤n→b.size≤n→c.size≤n→Tri (Cq f a b) (Cq f b c) (Cq f a c):=by
 intro n
 induction n with
 | zero=>intro a b c h;have:=KZ a;omega
 | succ n ih =>
  intro a b c h1 h2 h3
  by_cases ha:a.Kids.length=2
  ·obtain⟨x,y,hx⟩:=EO ha
   by_cases hb:b.Kids.length=2
   ·obtain⟨u,v,hu⟩:=EO hb
    by_cases hc:c.Kids.length=2
    ·obtain⟨w,z,hw⟩:=EO hc
     have e1:=Cc (t:=a) (y:=x) (by rw[hx];simp)
     have e2:=Cc (t:=a) (y:=y) (by rw[hx];simp)
     have e3:=Cc (t:=b) (y:=u) (by rw[hu];simp)
     have e4:=Cc (t:=b) (y:=v) (by rw[hu];simp)
     have e5:=Cc (t:=c) (y:=w) (by rw[hw];simp)
     have e6:=Cc (t:=c) (y:=z) (by rw[hw];simp)
     rw[GR f hx hu,GR f hu hw,GR f hx hw]
     exact(Jn _ _ _).lex ((Jn _ _ _).lex ((ih _ _ _ (by omega) (by omega) (by omega)).lex (ih _ _ _ (by omega) (by omega) (by omega))))
    ·rw[GR f hx hu,Hp f hu hc,Hp f hx hc]
     refine(Jn _ _ _).lex ?_
     unfold Tri;omega
   ·by_cases hc:c.Kids.length=2
    ·obtain⟨w,z,hw⟩:=EO hc
     rw[Hp f hx hb,FK f hb,if_pos hc,GR f hx hw]
     refine(Jn _ _ _).lex ?_
     unfold Tri;omega
    ·rw[Hp f hx hb,FK f hb,if_neg hc,Hp f hx hc]
     refine(Jn _ _ _).lex ?_
     unfold Tri;omega
  ·by_cases hb:b.Kids.length=2
   ·obtain⟨u,v,hu⟩:=EO hb
    by_cases hc:c.Kids.length=2
    ·obtain⟨w,z,hw⟩:=EO hc
     rw[FK f ha,if_pos hb,GR f hu hw,FK f ha,if_pos hc]
     refine(Jn _ _ _).lex ?_
     unfold Tri;omega
    ·rw[FK f ha,if_pos hb,Hp f hu hc,FK f ha,if_neg hc]
     refine(Jn _ _ _).lex ?_
     unfold Tri;omega
   ·by_cases hc:c.Kids.length=2
    ·rw[FK f ha,if_neg hb,FK f hb,if_pos hc,FK f ha,if_pos hc]
     refine(Jn _ _ _).lex ?_
     unfold Tri;omega
    ·rw[FK f ha,if_neg hb,FK f hb,if_neg hc,FK f ha,if_neg hc]
     exact(Jn _ _ _).lex (Jn _ _ _)
theorem WJ (a b:AC):EN a b<0 ↔ a<b:=by
 unfold EN
 have:a<b ↔ a.toNat<b.toNat:=Iff.rfl
 rw[this]
 split
 ·simp;omega
 ·split <;> simp <;> omega
theorem Hv (a b:AC):EN a b=0 ↔ a=b:=by
 unfold EN
 rw[← BitVec.toNat_inj]
 split
 ·simp;omega
 ·split <;> simp <;> omega
end
section
theorem AN1:okF Tryz.f9=true:=by kernel_rfl
def IZ (x:AZ):Option (Bool) :=
 if(decide ((x.Edges.length:Int)≤60))=true then
  if(decide ((x.Stats.Rows.length:Int)≤100))=true then
   some (decide ((x.Stats.Sel.length:Int)≤100))
  else
   some false
 else
  some false
instance IZ.w:AH IZ (fun x r=>Fn Tryz.prog 9 [.agg (AZ.C x)] (.bool r)):=⟨by
 intro x r h
 rw[IZ] at h
 try dsimp only
 refine Fn.of_lc mix AQH AN1 (by rfl) (flC (AZ.flatC _) (flN)) (.atom _) ?_
 simp -implicitDefEqProofs only[go_sem,Tryz.f9]
 exact AR⟩
end
section
structure ABh (f:If) (l:List AA) (k:Nat):Prop where
 lt:k<l.length
 all:∀ j (h:j<l.length),Cq f l[k] l[j]≤0
 prev:∀ j (h:j<l.length),j<k→Cq f l[k] l[j]<0
theorem ZU (m:AZ):∃ b,IZ m=some b∧(b=true→m.Edges.length≤60∧m.Stats.Rows.length≤100∧m.Stats.Sel.length≤100):=by
 unfold IZ
 by_cases h1:(m.Edges.length:Int)≤60
 ·rw[if_pos (by simpa using h1)]
  by_cases h2:(m.Stats.Rows.length:Int)≤100
  ·rw[if_pos (by simpa using h2)]
   refine⟨_,rfl,fun h=>⟨by omega,by omega,by have:=of_decide_eq_true h;omega⟩⟩
  ·rw[if_neg (by simpa using h2)]
   exact⟨_,rfl,fun h=>by cases h⟩
 ·rw[if_neg (by simpa using h1)]
  exact⟨_,rfl,fun h=>by cases h⟩
end
section
@[go_sem] theorem APG:lrp Tryz.prog 37 1=(7,[]):=by kernel_rfl
@[go_sem] theorem APW:lrp Tryz.prog 37 2=(8,[]):=by kernel_rfl
@[go_sem] theorem AQD:lrp Tryz.prog 37 6=(6,[]):=by kernel_rfl
@[go_sem] theorem APv:lrp Tryz.prog 37 7=(12,[]):=by kernel_rfl
@[go_sem] theorem AOH:lrp Tryz.prog 37 10=(10,[]):=by kernel_rfl
@[go_sem] theorem AOc:lrp Tryz.prog 37 12=(24,[]):=by kernel_rfl
theorem ALg:okF Tryz.f37=true:=by kernel_rfl
def Dc (x:Aq × AA × AA):Option (Bool) :=
 CE (x.1,x.2.1)>>=fun r1 =>
 CE (x.1,x.2.2)>>=fun r3 =>
 if(r1 != r3)=true then
  CE (x.1,x.2.1)>>=fun r6 =>
  CE (x.1,x.2.2)>>=fun r8 =>
  some (decide (r6<r8))
 else
  if((x.2.1.Kids.length:Int) != 2)=true then
   if((x.2.2.Kids.length:Int) == 2)=true then
    some ((x.2.2.Kids.length:Int) == 2)
   else
    Aj x.2.1>>=fun r13 =>
    Aj x.2.2>>=fun r15 =>
    some (decide (r13<r15))
  else
   if((x.2.2.Kids.length:Int) != 2)=true then
    some ((x.2.2.Kids.length:Int) == 2)
   else
    (x.2.1.Kids[0]?)>>=fun (e19:AA) =>
    Aj e19>>=fun r21 =>
    (x.2.2.Kids[0]?)>>=fun (e23:AA) =>
    Aj e23>>=fun r25 =>
    if(r21 != r25)=true then
     some (decide (r21<r25))
    else
     Dc (x.1,e19,e23)>>=fun r28 =>
     if r28=true then
      some true
     else
      Dc (x.1,e23,e19)>>=fun r31 =>
      if r31=true then
       some false
      else
       (x.2.1.Kids[1]?)>>=fun (e34:AA) =>
       (x.2.2.Kids[1]?)>>=fun (e36:AA) =>
       Dc (x.1,e34,e36)>>=fun r38 =>
       some r38
 partial_fixpoint
theorem Dc.ws:PC Dc (fun x r=>Fn Tryz.prog 37 [.agg (Aq.C x.1),.agg (AA.C x.2.1),.agg (AA.C x.2.2)] (.bool r)):=by
 refine Dc.partial_correctness _ ?_
 ·intro US TW x r h
  have AHo:AH US _:=⟨TW⟩
  refine Fn.of_lc mix AN3 ALg (by rfl) (flC (Aq.flatC _) (flC (AA.flatC _) (flC (AA.flatC _) (flN)))) (.atom _) ?_
  simp -implicitDefEqProofs only[go_sem,Tryz.f37]
  exact AR
instance Dc.w:type_of% (AH.mk Dc.ws):=⟨Dc.ws⟩
end
section
@[go_sem] theorem AP8:lrp Tryz.prog 57 8=(10,[]):=by kernel_rfl
theorem AJ8:okF Tryz.f57=true:=by kernel_rfl
def At.l1 (x:List AA × Int × Bool × Int × Aq):Option (Bool) :=
 if(decide (x.2.2.2.1<(x.1.length:Int)))=true then
  (AU x.1 x.2.2.2.1)>>=fun (e3:AA) =>
  (AU x.1 x.2.1)>>=fun (e5:AA) =>
  Dc (x.2.2.2.2,e3,e5)>>=fun r7 =>
  if r7=true then
   At.l1 (x.1,x.2.1,false,(w64 (x.2.2.2.1+1)),x.2.2.2.2)
  else
   At.l1 (x.1,x.2.1,x.2.2.1,(w64 (x.2.2.2.1+1)),x.2.2.2.2)
 else
  some x.2.2.1
 partial_fixpoint
theorem At.l1.ws:PC At.l1 (fun x o=>∀ lo c (Q:EP) (hb:∀ s:Bool,o=s→Q (.exit 2) ⟨[(1,.v (.slice .foreign (x.1.map AA.av))),(2,.lref 2 0),(5,.v (.i64 x.2.1)),(6,.v (.bool s))],[(2,[.v (.i64 x.2.2.2.2.Kind),.v (.slice .foreign (x.2.2.2.2.Edges.map AD.av)),.v (.slice .foreign (x.2.2.2.2.Stats.Rows.map AV.w)),.v (.slice .foreign (x.2.2.2.2.Stats.Sel.map AV.w))])]⟩),AK Tryz.prog 57 lo c 1 (VQ Q) ⟨[(1,.v (.slice .foreign (x.1.map AA.av))),(2,.lref 2 0),(5,.v (.i64 x.2.1)),(6,.v (.bool x.2.2.1)),(7,.v (.i64 x.2.2.2.1))],[(2,[.v (.i64 x.2.2.2.2.Kind),.v (.slice .foreign (x.2.2.2.2.Edges.map AD.av)),.v (.slice .foreign (x.2.2.2.2.Stats.Rows.map AV.w)),.v (.slice .foreign (x.2.2.2.2.Stats.Sel.map AV.w))])]⟩):=by
 refine At.l1.partial_correctness _ ?_
 ·intro RS Py x o h
  have AE0:AH RS _:=⟨Py⟩
  intro lo c Q hb
  refine AK.step mix ACY (by kernel_rfl) ?_
  simp -implicitDefEqProofs only[go_sem,Tryz.f57]
  exact AR
instance At.l1.w:type_of% (AH.mk At.l1.ws):=⟨At.l1.ws⟩
def At.l0 (x:List AA × Int × Aq):Option (Lp (Unit) (Int)) :=
 if(decide (x.2.1<(x.1.length:Int)))=true then
  At.l1 (x.1,x.2.1,true,0,x.2.2)>>=fun (o10:Bool) =>
  if o10=true then
   some (.ret x.2.1)
  else
   At.l0 (x.1,(w64 (x.2.1+1)),x.2.2)
 else
  some (.brk ())
 partial_fixpoint
theorem At.l0.ws:PC At.l0 (fun x o=>∀ lo c (Q:EP) (hb:∀ s:Unit,o=Lp.brk s→Q (.exit 0) ⟨[],[]⟩) (hr:∀ (r:Int) (L:AO),o=.ret r→DV Tryz.prog [.tmp 4] (.i64 r) (fun _=>True) .ret L→Q .ret L),AK Tryz.prog 57 lo c 0 (VQ Q) ⟨[(1,.v (.slice .foreign (x.1.map AA.av))),(2,.lref 2 0),(5,.v (.i64 x.2.1))],[(2,[.v (.i64 x.2.2.Kind),.v (.slice .foreign (x.2.2.Edges.map AD.av)),.v (.slice .foreign (x.2.2.Stats.Rows.map AV.w)),.v (.slice .foreign (x.2.2.Stats.Sel.map AV.w))])]⟩):=by
 refine At.l0.partial_correctness _ ?_
 ·intro QK QA x o h
  have AED:AH QK _:=⟨QA⟩
  intro lo c Q hb hr
  refine AK.step mix ACY (by kernel_rfl) ?_
  simp -implicitDefEqProofs only[go_sem,Tryz.f57]
  exact AR
instance At.l0.w:type_of% (AH.mk At.l0.ws):=⟨At.l0.ws⟩
def At (x:Aq × List AA):Option (Int) :=
 At.l0 (x.2,0,x.1)>>=fun (o13:Lp (Unit) (Int))=>match o13 with
 | .brk s16 =>
  some (-1)
 | .ret r15 =>
  some r15
instance At.w:AH At (fun x r=>Fn Tryz.prog 57 [.agg (Aq.C x.1),.slice .foreign (x.2.map AA.av)] (.i64 r)):=⟨by
 intro x r h
 rw[At] at h
 try dsimp only
 refine Fn.of_lc mix ACY AJ8 (by rfl) (flC (Aq.flatC _) (flC (AT _ AA.flat _) (flN))) (.atom _) ?_
 simp -implicitDefEqProofs only[go_sem,Tryz.f57]
 exact AR⟩
end
section
theorem Vm (r:Aq) (hE:r.Edges.length<9223372036854775808):∀ (n:Nat),n≤1000000000→∀ (a b:AA),a.size≤n→b.size≤n→Dc (r,a,b)=some (decide (Cq (BL r.Kind r.Edges r.Stats) a b<0)):=by
 intro n
 induction n with
 | zero=>intro _ a b h;have:=KZ a;omega
 | succ n ih =>
  intro hn a b h1 h2
  have ih:=ih (by omega)
  have han:=fun x u hx hu=>Td (BL r.Kind r.Edges r.Stats) n x u hx hu
  rw[Dc]
  dsimp only
  rw[Lr r hE a (by omega),Lr r hE b (by omega)]
  generalize hf:BL r.Kind r.Edges r.Stats=f at *
  simp -implicitDefEqProofs only[Option.bind_eq_bind,Option.bind_some]
  by_cases hc:CA f a=CA f b
  ·have hc0:EN (CA f a) (CA f b)=0:=(Hv _ _).2 hc
   rw[if_neg (by simp[hc])]
   by_cases ha:a.Kids.length=2
   ·obtain⟨x,y,hx⟩:=EO ha
    rw[if_neg (by simp[ha])]
    by_cases hb:b.Kids.length=2
    ·obtain⟨u,v,hu⟩:=EO hb
     rw[if_neg (by simp[hb]),GR f hx hu]
     have e1:=Cc (t:=a) (y:=x) (by rw[hx];simp)
     have e2:=Cc (t:=a) (y:=y) (by rw[hx];simp)
     have e3:=Cc (t:=b) (y:=u) (by rw[hu];simp)
     have e4:=Cc (t:=b) (y:=v) (by rw[hu];simp)
     have x0:a.Kids[0]?=some x:=by rw[hx];rfl
     have u0:b.Kids[0]?=some u:=by rw[hu];rfl
     have x1:a.Kids[1]?=some y:=by rw[hx];rfl
     have u1:b.Kids[1]?=some v:=by rw[hu];rfl
     rw[x0,u0,x1,u1]
     simp -implicitDefEqProofs only[Option.bind_some]
     rw[Cz x (by omega),Cz u (by omega)]
     simp -implicitDefEqProofs only[Option.bind_some]
     rw[ih x u (by omega) (by omega),ih u x (by omega) (by omega),ih y v (by omega) (by omega),han x u (by omega) (by omega)]
     simp -implicitDefEqProofs only[Option.bind_some]
     have hl0:lex (EN (CA f a) (CA f b)) (lex (EN (AX x) (AX u)) (lex (Cq f x u) (Cq f y v)))=lex (EN (AX x) (AX u)) (lex (Cq f x u) (Cq f y v)):=by unfold lex;rw[if_pos hc0]
     rw[hl0]
     by_cases ht:AX x=AX u
     ·have ht0:EN (AX x) (AX u)=0:=(Hv _ _).2 ht
      have hl1:lex (EN (AX x) (AX u)) (lex (Cq f x u) (Cq f y v))=lex (Cq f x u) (Cq f y v):=by unfold lex;rw[if_pos ht0]
      rw[if_neg (by simp[ht]),hl1]
      unfold lex
      by_cases h0:Cq f x u<0
      ·rw[if_pos (by simpa using h0),if_neg (by omega)]
       simp[h0]
      ·rw[if_neg (by simpa using h0)]
       by_cases h3:- Cq f x u<0
       ·rw[if_pos (by simpa using h3),if_neg (by omega)]
        simp;omega
       ·rw[if_neg (by simpa using h3),if_pos (by omega)]
     ·rw[if_pos (by simpa using ht)]
      have hl1:lex (EN (AX x) (AX u)) (lex (Cq f x u) (Cq f y v))=EN (AX x) (AX u):=by unfold lex;rw[if_neg (fun e=>ht ((Hv _ _).1 e))]
      rw[hl1]
      congr 1
      exact decide_eq_decide.2 (WJ _ _).symm
    ·rw[if_pos (by simp;omega),Hp f hx hb]
     unfold lex
     rw[if_pos hc0]
     simp;omega
   ·rw[if_pos (by simp;omega),FK f ha]
    by_cases hb:b.Kids.length=2
    ·rw[if_pos (by simp[hb]),if_pos hb]
     unfold lex
     rw[if_pos hc0]
     simp[hb]
    ·rw[if_neg (by simp;omega),if_neg hb,Cz a (by omega),Cz b (by omega)]
     simp -implicitDefEqProofs only[Option.bind_some]
     unfold lex
     rw[if_pos hc0]
     congr 1
     exact decide_eq_decide.2 (WJ _ _).symm
  ·rw[if_pos (by simpa using hc)]
   have hc0:¬ EN (CA f a) (CA f b)=0:=fun e=>hc ((Hv _ _).1 e)
   have:Cq f a b=EN (CA f a) (CA f b):=by
    by_cases ha:a.Kids.length=2
    ·obtain⟨x,y,hx⟩:=EO ha
     by_cases hb:b.Kids.length=2
     ·obtain⟨u,v,hu⟩:=EO hb
      rw[GR f hx hu];unfold lex;rw[if_neg hc0]
     ·rw[Hp f hx hb];unfold lex;rw[if_neg hc0]
    ·rw[FK f ha];unfold lex;rw[if_neg hc0]
   rw[this]
   congr 1
   exact decide_eq_decide.2 (WJ _ _).symm
theorem Wk (r:Aq) (hE:r.Edges.length<9223372036854775808) (l:List AA) (hl:l.length<9223372036854775808) (hs:∀ t∈l,t.size≤1000000) {k:Nat} (hk:ABh (BL r.Kind r.Edges r.Stats) l k):At (r,l)=some (k:Int):=by
 let f:=BL r.Kind r.Edges r.Stats
 have cmp:∀ i j (hi:i<l.length) (hj:j<l.length),Dc (r,l[i],l[j])=some (decide (Cq f l[i] l[j]<0)):=fun i j hi hj=>Vm r hE 1000000 (by omega) _ _ (hs _ (List.getElem_mem hi)) (hs _ (List.getElem_mem hj))
 have anti:∀ i j (hi:i<l.length) (hj:j<l.length),Cq f l[j] l[i] = - Cq f l[i] l[j]:=fun i j hi hj=>Td f 1000000 _ _ (hs _ (List.getElem_mem hi)) (hs _ (List.getElem_mem hj))
 have inner:∀ i (hi:i<l.length) n j (b:Bool),l.length - j=n→j≤l.length→At.l1 (l,(i:Int),b,(j:Int),r)=some (b&&decide (∀ k (h:k<l.length),j≤k→¬ Cq f l[k] l[i]<0)):=by
  intro i hi n
  induction n with
  | zero =>
   intro j b h1 h2
   obtain rfl:j=l.length:=by omega
   rw[At.l1,if_neg (dge (by dsimp only;omega))]
   have:∀ k (h:k<l.length),l.length≤k→¬ Cq f l[k] l[i]<0:=fun k h h'=>by omega
   rw[decide_eq_true this,Bool.and_true]
  | succ n ih =>
   intro j b h1 h2
   have hj:j<l.length:=by omega
   rw[At.l1,if_pos (dlt (by dsimp only;omega))]
   dsimp only
   rw[Ai hj,Ai hi]
   simp -implicitDefEqProofs only[Option.bind_eq_bind,Option.bind_some]
   rw[cmp j i hj hi]
   simp -implicitDefEqProofs only[Option.bind_some]
   rw[Aa (by omega),ih (j+1) _ (by omega) (by omega),ih (j+1) _ (by omega) (by omega)]
   have split:(∀ k (h:k<l.length),j≤k→¬ Cq f l[k] l[i]<0) ↔ ¬ Cq f l[j] l[i]<0∧∀ k (h:k<l.length),j+1≤k→¬ Cq f l[k] l[i]<0:=by
    constructor
    ·intro h;exact⟨h j hj (Nat.le_refl _),fun k h' h2=>h k h' (by omega)⟩
    ·rintro⟨h,h'⟩ k hk h2
     by_cases e:k=j
     ·subst e;exact h
     ·exact h' k hk (by omega)
   by_cases hc:Cq f l[j] l[i]<0
   ·rw[if_pos (by simpa using hc)]
    have:¬ (∀ k (h:k<l.length),j≤k→¬ Cq f l[k] l[i]<0):=fun h=>(split.1 h).1 hc
    rw[decide_eq_false this];simp
   ·rw[if_neg (by simpa using hc)]
    congr 2
    exact decide_eq_decide.2 ⟨fun h=>split.2 ⟨hc,h⟩,fun h=>(split.1 h).2⟩
 have outer:∀ n i,k - i=n→i≤k→At.l0 (l,(i:Int),r)=some (.ret (k:Int)):=by
  intro n
  induction n with
  | zero =>
   intro i h1 h2
   obtain rfl:i=k:=by omega
   have hi:=hk.lt
   rw[At.l0,if_pos (dlt (by dsimp only;omega))]
   dsimp only
   have:=inner i hi l.length 0 true (by omega) (by omega)
   rw[show ((0:Nat):Int)=0 from rfl] at this
   rw[this]
   have h3:∀ j (h:j<l.length),0≤j→¬ Cq f l[j] l[i]<0:=fun j h _=>by
    have h4:Cq f l[i] l[j]≤0:=hk.all j h
    have:=anti i j hi h
    omega
   rw[decide_eq_true h3];rfl
  | succ n ih =>
   intro i h1 h2
   have hkl:=hk.lt
   have hi:i<l.length:=by omega
   rw[At.l0,if_pos (dlt (by dsimp only;omega))]
   dsimp only
   have:=inner i hi l.length 0 true (by omega) (by omega)
   rw[show ((0:Nat):Int)=0 from rfl] at this
   rw[this]
   have h3:¬ ∀ j (h:j<l.length),0≤j→¬ Cq f l[j] l[i]<0:=fun h=>h k hkl (Nat.zero_le _) (hk.prev i hi (by omega))
   rw[decide_eq_false h3]
   simp -implicitDefEqProofs only[Option.bind_eq_bind,Option.bind_some,Bool.and_false]
   rw[if_neg (by decide),Aa (by omega)]
   exact ih (i+1) (by omega) (by omega)
 unfold At
 have:=outer k 0 (by omega) (by omega)
 rw[show ((0:Nat):Int)=0 from rfl] at this
 dsimp only
 rw[this];rfl
end
section
theorem AKV:okF Tryz.f17=true:=by kernel_rfl
mutual
def Cw.l0 (x:Int × AA):Option (Lp (Unit) (Bool)) :=
 if(decide (x.1<(x.2.Kids.length:Int)))=true then
  (AU x.2.Kids x.1)>>=fun (e2:AA) =>
  Cw e2>>=fun r4 =>
  if r4=true then
   Cw.l0 ((w64 (x.1+1)),x.2)
  else
   some (.ret false)
 else
  some (.brk ())
 partial_fixpoint
def Cw (x:AA):Option (Bool) :=
 Cw.l0 (0,x)>>=fun (o7:Lp (Unit) (Bool))=>match o7 with
 | .brk s10 =>
  if((x.Kids.length:Int) != 2)=true then
   some true
  else
   (x.Kids[1]?)>>=fun (e12:AA) =>
   some (e12.Kind == 0)
 | .ret r9 =>
  some r9
 partial_fixpoint
end
theorem Cw.l0.ws:PC Cw.l0 (fun x o=>∀ lo c (Q:EP) (hb:∀ s:Unit,o=Lp.brk s→Q (.exit 0) ⟨[(1,.lref 1 0)],[(1,[.v (.i64 x.2.Kind),.v (.i64 x.2.Table),.v (.slice .foreign (x.2.Kids.map AA.av)),.v (.slice .foreign (x.2.Conj.map AB.av)),.v (.bool x.2.Hash)])]⟩) (hr:∀ (r:Bool) (L:AO),o=.ret r→DV Tryz.prog [.tmp 2] (.bool r) (fun _=>True) .ret L→Q .ret L),AK Tryz.prog 17 lo c 0 (VQ Q) ⟨[(1,.lref 1 0),(3,.v (.i64 x.1))],[(1,[.v (.i64 x.2.Kind),.v (.i64 x.2.Table),.v (.slice .foreign (x.2.Kids.map AA.av)),.v (.slice .foreign (x.2.Conj.map AB.av)),.v (.bool x.2.Hash)])]⟩)∧PC Cw (fun x r=>Fn Tryz.prog 17 [.agg (AA.C x)] (.bool r)):=by
 refine Cw.l0.mutual_partial_correctness _ _ ?_ ?_
 ·intro Ku Zj KI YH x o h
  have Um:AH Ku _:=⟨KI⟩
  have AKZ:AH Zj _:=⟨YH⟩
  intro lo c Q hb hr
  refine AK.step mix AH7 (by kernel_rfl) ?_
  simp -implicitDefEqProofs only[go_sem,Tryz.f17]
  exact AR
 ·intro Ku KI x r h
  have Um:AH Ku _:=⟨KI⟩
  refine Fn.of_lc mix AH7 AKV (by rfl) (flC (AA.flatC _) (flN)) (.atom _) ?_
  simp -implicitDefEqProofs only[go_sem,Tryz.f17]
  exact AR
instance Cw.w:type_of% (AH.mk Cw.l0.ws.2):=⟨Cw.l0.ws.2⟩
end
section
theorem AKg:okF Tryz.f52=true:=by kernel_rfl
def Ee (x:AA):Option (GA) :=
 some (⟨x.Kind,(x.Kids.length:Int)⟩:GA)
instance Ee.w:AH Ee (fun x r=>Fn Tryz.prog 52 [.agg (AA.C x)] (.agg (GA.C r))):=⟨by
 intro x r h
 rw[Ee] at h
 try dsimp only
 refine Fn.of_lc mix AN4 AKg (by rfl) (flC (AA.flatC _) (flN)) (GA.flatC _) ?_
 simp -implicitDefEqProofs only[go_sem,Tryz.f52]
 exact AR⟩
end
section
theorem AKy:okF Tryz.f16=true:=by kernel_rfl
def Cp.r0 (x:List AA × Bool):Option (Lp (Bool) (Bool)) :=
 match x.1 with
 | []=>some (.brk x.2)
 | e3 :: l4 =>
  Ee e3>>=fun r5 =>
  if(r5.kids == 2)=true then
   (e3.Kids[1]?)>>=fun (e8:AA) =>
   if(e8.Kind != 0)=true then
    some (.ret false)
   else
    Cp.r0 (l4,x.2)
  else
   Cp.r0 (l4,x.2)
 partial_fixpoint
theorem Cp.r0.ws:PC Cp.r0 (fun x o=>∀ (Fin:Exit→List (Nat × List CV)→Prop) (hb:∀ (s:Bool),o=Lp.brk s→Fin .normal [(2100002,[.v (.bool s)])]) (hr:∀ (s:Bool),o=Lp.ret s→Fin .ret [(2100002,[.v (.bool s)])]),Hm Tryz.prog 16 Tryz.f16 0 1 #[6] [(2,.lref 2100002 0)] Fin (x.1.map (fun (y:AA)=>[.agg (AA.C y)])) [(2100002,[.v (.bool x.2)])]):=by
 refine Cp.r0.partial_correctness _ ?_
 ·intro AJM NR x o h
  intro Fin hb hr
  generalize hx1:x.1=ys at h ⊢
  cases ys with
  | nil=>injection h with h;subst h;exact Hm.nil (hb _ rfl)
  | cons e3 l4 =>
   refine Hm.cons rfl fun l0 c1 hlo1=>?_
   dsimp only at h
   simp -implicitDefEqProofs only[go_sem,Tryz.f16]
   refine Qj.mk (by rfl) fun c2 hlo2=>?_
   simp -implicitDefEqProofs only[go_sem,Tryz.f16]
   obtain⟨r5,h6,h⟩:=AE h
   refine .plain _ _ rfl (Ee.w.w e3 _ h6) ?_
   try simp -implicitDefEqProofs only[go_sem]
   revert h;refine itE (fun h7 h=>?_) fun h7 h=>?_
   ·try simp -implicitDefEqProofs only[go_sem, *, -h]
    obtain⟨e8,h9,h⟩:=AE h
    try simp -implicitDefEqProofs only[go_sem, *, -h]
    revert h;refine itE (fun h10 h=>?_) fun h10 h=>?_
    ·try simp -implicitDefEqProofs only[go_sem, *, -h]
     injection h with h;subst h
     exact KK.ret [] (by rfl) AM (by rfl) (hr _ rfl)
    ·try simp -implicitDefEqProofs only[go_sem, *, -h]
     exact KK.next [] (by rfl) AM (by rfl) (NR (l4,x.2) _ h Fin hb hr)
   ·try simp -implicitDefEqProofs only[go_sem, *, -h]
    exact KK.next [] (by rfl) AM (by rfl) (NR (l4,x.2) _ h Fin hb hr)
instance Cp.r0.w:type_of% (AH.mk Cp.r0.ws):=⟨Cp.r0.ws⟩
def Cp (x:AA):Option (Bool) :=
 GH x>>=fun l1 =>
 Cp.r0 (l1,false)>>=fun (o11:Lp (Bool) (Bool))=>match o11 with
 | .brk s13 =>
  some true
 | .ret s14 =>
  some s14
instance Cp.w:AH Cp (fun x r=>Fn Tryz.prog 16 [.agg (AA.C x)] (.bool r)):=⟨by
 intro x r h
 rw[Cp] at h
 try dsimp only
 refine Fn.of_lc mix AHS AKy (by rfl) (flC (AA.flatC _) (flN)) (.atom _) ?_
 simp -implicitDefEqProofs only[go_sem,Tryz.f16]
 obtain⟨l1,h2,h⟩:=AE h
 refine .iter _ _ rfl (GH.w x _ h2) ?_
 try simp -implicitDefEqProofs only[go_sem]
 obtain⟨o11,h12,h⟩:=AE h
 refine Lj.iter mix AHS (Km.none _) (by kernel_rfl) (by kernel_rfl) (by rfl) rfl [] [(2100002,2)] (by rfl) (by rfl) AM AM (Cp.r0.w.w (l1,false) _ h12 _ ?_ ?_)
 ·intro s13 hs';subst hs'
  try simp -implicitDefEqProofs only[go_sem]
  injection h with h;subst h
  first | rfl | simp -implicitDefEqProofs only[go_sem] <;> rfl
 ·intro s14 hs';subst hs'
  try simp -implicitDefEqProofs only[go_sem]
  injection h with h;subst h
  first | rfl | simp -implicitDefEqProofs only[go_sem] <;> rfl⟩
end
section
def okN (y:AA):Bool:=match y.Kids with
 | [_,b]=>b.Kind == 0
 | _=>true
def isD (t:AA):Bool:=t.tour.all okN
theorem Rj {y a b:AA} (h:y.Kids=[a,b]):okN y=(b.Kind == 0):=by unfold okN;rw[h]
theorem AAb {y:AA} (h:y.Kids.length≠2):okN y=true:=by
 unfold okN
 split
 ·rename_i a b h2;rw[h2] at h;exact absurd rfl h
 ·rfl
theorem Zp (t:AA):isD t=(t.Kids.all isD&&okN t):=by
 unfold isD
 rw[Dk,List.all_append,List.all_flatMap]
 simp
theorem Sr (t:AA):t.size≤1000000→Cw t=some (isD t):=by
 induction t using AA.induct with
 | h t ih =>
  intro hsz
  have hkl:t.Kids.length≤1000000:=by
   have:=DX t
   have:=Me AA.size KZ t.Kids
   omega
  have key:∀ (post pre:List AA),pre++post=t.Kids→Cw.l0 ((pre.length:Int),t)=some (if post.all isD=true then .brk () else .ret false):=by
   intro post
   induction post with
   | nil=>intro pre he;rw[List.append_nil] at he;rw[Cw.l0,if_neg (dge (by dsimp only;rw[← he];omega))];rfl
   | cons y l ih2 =>
    intro pre he
    have hlen:pre.length+(l.length+1)=t.Kids.length:=by rw[← he,List.length_append];rfl
    have hy:y∈t.Kids:=by rw[← he];simp
    have h1:=ih2 (pre++[y]) (by rw[List.append_assoc];exact he)
    rw[CX] at h1
    rw[Cw.l0,if_pos (dlt (by dsimp only;omega))]
    dsimp only
    have hg:AU t.Kids (pre.length:Int)=some y:=by rw[← he,FB]
    rw[hg]
    simp -implicitDefEqProofs only[Option.bind_eq_bind,Option.bind_some]
    rw[ih y hy (by have:=Cc hy;omega)]
    simp -implicitDefEqProofs only[Option.bind_some]
    rw[List.all_cons]
    cases isD y
    ·rfl
    ·rw[if_pos rfl,Aa (by omega),h1,Bool.true_and]
  have h0:=key t.Kids [] rfl
  rw[List.length_nil,show ((0:Nat):Int)=0 from rfl] at h0
  rw[Cw,h0,Zp]
  simp -implicitDefEqProofs only[Option.bind_eq_bind,Option.bind_some]
  cases hall:t.Kids.all isD
  ·rfl
  ·simp only[if_true,Bool.true_and]
   by_cases h2:t.Kids.length=2
   ·obtain⟨a,b,hk⟩:=EO h2
    rw[if_neg (by simp[h2]),Rj hk,hk];rfl
   ·rw[if_pos (by simp;omega),AAb h2]
theorem PY (t:AA) (hsz:t.size≤1000000):Cp t=some (isD t):=by
 have key:∀ (l:List AA) (b:Bool),Cp.r0 (l,b)=some (if l.all okN=true then .brk b else .ret false):=by
  intro l
  induction l with
  | nil=>intro b;rw[Cp.r0];rfl
  | cons y l ih =>
   intro b
   rw[Cp.r0]
   simp -implicitDefEqProofs only[Ee,Option.bind_eq_bind,Option.bind_some]
   rw[List.all_cons]
   by_cases h2:y.Kids.length=2
   ·obtain⟨a,c,hk⟩:=EO h2
    rw[if_pos (by simp[h2]),Rj hk,hk]
    simp -implicitDefEqProofs only[List.getElem?_cons_succ,List.getElem?_cons_zero,Option.bind_some]
    cases hc:c.Kind == 0
    ·rw[if_pos (by simpa using hc)];rfl
    ·rw[if_neg (by simpa using hc),ih,Bool.true_and]
   ·rw[if_neg (by simp;omega),AAb h2,ih,Bool.true_and]
 unfold Cp
 rw[Qp t (by omega)]
 simp -implicitDefEqProofs only[Option.bind_eq_bind,Option.bind_some]
 rw[key]
 unfold isD
 cases t.tour.all okN <;> rfl
end
section
theorem UR (i:Int):AX (BM i)=AN i:=by
 unfold AX
 rw[Dk]
 show ofL (Ag [BM i])=AN i
 rw[JE (x:=BM i) [] rfl]
 show ofL (i :: Ag [])=AN i
 rw[GZ,show Ag []=[] from rfl,Hs,BitVec.or_zero]
theorem Qn {s:AC} (h:Ao s=1):s=AN (FC s)∧0≤FC s∧FC s<64:=by
 unfold Ao at h
 obtain⟨i,hi⟩:=List.length_eq_one_iff.1 h
 have hm:FC s=i:=by unfold FC;rw[hi]
 have hr:=Eh s i (by rw[hi];exact List.mem_singleton.2 rfl)
 rw[hm]
 refine⟨KW fun n=>?_,hr⟩
 have h1:=FJ s n
 rw[hi,List.mem_singleton] at h1
 rw[Gy]
 by_cases e:n=i
 ·subst e
  rw[h1.1 rfl];simp[hr]
 ·have:Ad s n=false:=by
   cases h2:Ad s n with
   | false=>rfl
   | true=>exact absurd (h1.2 h2) e
  rw[this]
  have e':i≠n:=fun h=>e h.symm
  simp[e']
theorem XV {es:List AD} {a b:AC} (h:Fk es a b=true):1≤MD es (Bl es a b):=by
 unfold Fk at h
 rw[Bool.and_eq_true,Bool.and_eq_true,Bool.or_eq_true] at h
 obtain⟨⟨h1,_⟩,h2⟩:=h
 unfold MD
 cases hn:Bl es a b with
 | nil=>rw[hn] at h1;simp at h1
 | cons i l =>
  dsimp only
  rw[hn,List.all_cons,List.all_cons,Bool.and_eq_true,Bool.and_eq_true,Bool.and_eq_true] at h2
  rcases h2 with h2 | h2
  ·have:=h2.1;unfold FM at this;simp at this;omega
  ·have:=h2.2.1;unfold GN at this;simp at this;omega
theorem ACu {es:List AD} {a b:AC} (h:Fk es a b=true) (x y:AA):AX (Cx es a b x y)=AX x|||AX y:=by
 have hk:=XV h
 unfold AX
 rw[Dk]
 have e:(Cx es a b x y).Kids=[x,y]:=rfl
 rw[e]
 simp only[List.flatMap_cons,List.flatMap_nil,List.append_nil]
 rw[Cy,Cy,HD (x:=Cx es a b x y) [] (by show ¬ MD es (Bl es a b)=0;omega)]
 rw[show Ag []=[] from rfl,List.append_nil,Od]
theorem AD5 {a s:AC} (h:inS a s=true):a|||(s&&&~~~a)=s:=by
 refine KW fun n=>?_
 rw[Oq,IH]
 have h2:=(EE a s).1 h n
 cases h3:Ad a n <;> cases h4:Ad s n <;> simp_all
theorem Il {es:List AD} {n:Nat} {s:AC} {t:AA} (h:t∈spF es (n+1) s):(Ao s=1∧t=BM (FC s)) ∨
  (Ao s≠1∧∃ a x y,a≠0#64∧inS a s=true∧a≠s∧Fk es a (s&&&~~~a)=true∧x∈spF es n a∧y∈spF es n (s&&&~~~a)∧t=Cx es a (s&&&~~~a) x y):=by
 rw[spF] at h
 split at h
 ·rename_i h1;exact .inl ⟨h1,List.mem_singleton.1 h⟩
 ·rename_i h1
  refine .inr ⟨h1,?_⟩
  obtain⟨a,ha,h⟩:=List.mem_flatMap.1 h
  obtain⟨h2,h3,h4⟩:=Iw ha
  split at h
  ·rename_i hj
   obtain⟨x,hx,h⟩:=List.mem_flatMap.1 h
   obtain⟨y,hy,rfl⟩:=List.mem_map.1 h
   exact⟨a,x,y,h2,h3,h4,hj,hx,hy,rfl⟩
  ·cases h
theorem ZG {s a:AC} (h0:a≠0#64) (h:inS a s=true) (hne:a≠s):a∈(Ck s).dropLast:=by
 have hm:=(ET s a).2 ⟨h0,h⟩
 have hnn:Ck s≠[]:=List.ne_nil_of_mem hm
 rw[← List.dropLast_concat_getLast hnn] at hm
 rcases List.mem_append.1 hm with h1 | h1
 ·exact h1
 ·exfalso
  rw[List.mem_singleton] at h1
  have hs0:s≠0#64:=by
   rintro rfl
   exact h0 ((KJ a).2 fun n=>by
    cases h2:Ad a n with
    | false=>rfl
    | true=>have:=(EE a 0#64).1 h n h2;rw[HS] at this;cases this)
  have hs:s∈Ck s:=(ET s s).2 ⟨hs0,(EE s s).2 fun n hn=>hn⟩
  rw[← List.dropLast_concat_getLast hnn] at hs
  rcases List.mem_append.1 hs with h2 | h2
  ·exact(Iw h2).2.2 rfl
  ·rw[List.mem_singleton] at h2
   exact hne (h1.trans h2.symm)
theorem AGP {es:List AD} {n:Nat} {s a:AC} {x y:AA} (hc:Ao s≠1) (h0:a≠0#64) (h:inS a s=true) (hne:a≠s) (hj:Fk es a (s&&&~~~a)=true) (hx:x∈spF es n a) (hy:y∈spF es n (s&&&~~~a)):Cx es a (s&&&~~~a) x y∈spF es (n+1) s:=by
 rw[spF,if_neg hc]
 refine List.mem_flatMap.2 ⟨a,ZG h0 h hne,?_⟩
 rw[if_pos hj]
 exact List.mem_flatMap.2 ⟨x,hx,List.mem_map.2 ⟨y,hy,rfl⟩⟩
theorem HC {es:List AD}:∀ (n:Nat) (s:AC) (t:AA),t∈spF es n s→AX t=s:=by
 intro n
 induction n with
 | zero=>intro s t h;cases h
 | succ n ih =>
  intro s t h
  rcases Il h with⟨h1,rfl⟩|⟨_,a,x,y,_,h3,_,hj,hx,hy,rfl⟩
  ·rw[UR];exact(Qn h1).1.symm
  ·rw[ACu hj,ih a x hx,ih _ y hy,AD5 h3]
theorem AAL {es:List AD} {W:Nat} (hW:∀ a b,wtC (DF es (Bl es a b))≤W):∀ (n:Nat) (s:AC) (t:AA),t∈spF es n s→t.size+(W+1)≤2 * Ao s * (W+1):=by
 intro n
 induction n with
 | zero=>intro s t h;cases h
 | succ n ih =>
  intro s t h
  rcases Il h with⟨h1,rfl⟩|⟨_,a,x,y,h2,h3,h4,hj,hx,hy,rfl⟩
  ·have e:(BM (FC s)).size=1:=by rw[DX];rfl
   rw[e,h1];omega
  ·have i1:=ih a x hx
   have i2:=ih _ y hy
   have hw:=hW a (s&&&~~~a)
   have hc:=JJ h3
   have e:(Cx es a (s&&&~~~a) x y).size=1+wtC (DF es (Bl es a (s&&&~~~a)))+(x.size+(y.size+0)):=by rw[DX];rfl
   have e2:2 * (Ao a+Ao (s&&&~~~a)) * (W+1)=2 * Ao a * (W+1)+2 * Ao (s&&&~~~a) * (W+1):=by rw[Nat.mul_add 2,Nat.add_mul]
   rw[e,hc,e2]
   omega
end
section
def FU (f:If) (t u:AA):Bool:=decide ((CA f t).toNat<(CA f u).toNat) || (decide ((CA f t).toNat=(CA f u).toNat)&&decide ((Nm t).toNat<(Nm u).toNat))
def LS (f:If) (acc c:Option AA):Option AA:=match c with
 | none=>acc
 | some t=>match acc with
  | none=>some t
  | some u=>if FU f t u=true then some t else some u
def Hi (es:List AD) (a b:AC) (i:Int) (D:Option AA):Option AA:=if Fk es a b=true then D.map fun x=>Cx es a b x (BM i) else none
def DD (es:List AD) (f:If):Nat→AC→Option AA
 | 0,_=>none
 | n+1,s=>if Ao s=1 then some (BM (FC s)) else((BS s).map fun i=>Hi es (s&&&~~~AN i) (AN i) i (DD es f n (s&&&~~~AN i))).foldl (LS f) none
theorem AFT (f:If):∀ (l:List (Option AA)) (acc:Option AA),(l.foldl (LS f) acc=none→acc=none∧∀ c∈l,c=none) ∧
  ∀ t,l.foldl (LS f) acc=some t→(acc=some t∨some t∈l)∧(∀ u,acc=some u→FU f u t=false)∧∀ u,some u∈l→FU f u t=false:=by
 have irr:∀ t,FU f t t=false:=fun t=>by unfold FU;simp
 have tr:∀ a b c,FU f a b=false→FU f b c=false→FU f a c=false:=fun a b c h1 h2=>by
  unfold FU at *
  simp only[Bool.or_eq_false_iff,Bool.and_eq_false_iff,decide_eq_false_iff_not] at *
  omega
 have as_:∀ a b,FU f a b=true→FU f b a=false:=fun a b h=>by
  unfold FU at *
  simp only[Bool.or_eq_false_iff,Bool.and_eq_false_iff,decide_eq_false_iff_not,Bool.or_eq_true,Bool.and_eq_true,decide_eq_true_eq] at *
  omega
 intro l
 induction l with
 | nil =>
  intro acc
  refine⟨fun h=>⟨h,fun c hc=>by cases hc⟩,fun t h=>⟨.inl h,fun u hu=>?_,fun u hu=>by cases hu⟩⟩
  have h:acc=some t:=h
  rw[h] at hu;injection hu with hu;subst hu;exact irr _
 | cons c l ih =>
  intro acc
  obtain⟨h1,h2⟩:=ih (LS f acc c)
  refine⟨fun h=>?_,fun t h=>?_⟩
  ·obtain⟨h3,h4⟩:=h1 h
   cases c with
   | none=>exact⟨h3,fun d hd=>(List.mem_cons.1 hd).elim id (h4 d)⟩
   | some u =>
    unfold LS at h3
    cases acc with
    | none=>cases h3
    | some v=>dsimp only at h3;split at h3 <;> cases h3
  ·obtain⟨h3,h4,h5⟩:=h2 t h
   cases c with
   | none=>exact⟨h3.imp id (List.mem_cons_of_mem _),h4,fun u hu=>(List.mem_cons.1 hu).elim (fun e=>by cases e) (h5 u)⟩
   | some u =>
    cases acc with
    | none =>
     refine⟨?_,fun v hv=>(by cases hv),fun v hv=>?_⟩
     ·rcases h3 with h3 | h3
      ·exact .inr (by rw[← h3];exact List.mem_cons_self)
      ·exact .inr (List.mem_cons_of_mem _ h3)
     ·rcases List.mem_cons.1 hv with e | e
      ·exact h4 v e.symm
      ·exact h5 v e
    | some v =>
     have hp:LS f (some v) (some u)=if FU f u v=true then some u else some v:=rfl
     by_cases hb:FU f u v=true
     ·rw[hp,if_pos hb] at h3 h4
      have h6:=h4 u rfl
      refine⟨?_,fun w hw=>?_,fun w hw=>?_⟩
      ·rcases h3 with h3 | h3
       ·exact .inr (by rw[← h3];exact List.mem_cons_self)
       ·exact .inr (List.mem_cons_of_mem _ h3)
      ·injection hw with hw;subst hw;exact tr _ _ _ (as_ _ _ hb) h6
      ·rcases List.mem_cons.1 hw with e | e
       ·injection e with e;subst e;exact h6
       ·exact h5 w e
     ·rw[hp,if_neg hb] at h3 h4
      have h6:=h4 v rfl
      refine⟨?_,fun w hw=>?_,fun w hw=>?_⟩
      ·rcases h3 with h3 | h3
       ·exact .inl h3
       ·exact .inr (List.mem_cons_of_mem _ h3)
      ·injection hw with hw;subst hw;exact h6
      ·rcases List.mem_cons.1 hw with e | e
       ·injection e with e;subst e;exact tr _ _ _ (by simpa using hb) h6
       ·exact h5 w e
section
variable {es:List AD} {f:If}
theorem TS {c d:Int} (h:lex c d=0):c=0∧d=0:=by
 unfold lex at h
 split at h
 ·rename_i hc;exact⟨hc,h⟩
 ·rename_i hc;exact absurd h hc
theorem AC7:∀ (n:Nat) (s:AC) (x y:AA),x∈spF es n s→y∈spF es n s→Cq f x y=0→x=y:=by
 intro n
 induction n with
 | zero=>intro s x y h;cases h
 | succ n ih =>
  intro s x y hx hy hc
  rcases Il hx with⟨h1,rfl⟩|⟨h1,a,x1,x2,_,ha,_,_,hx1,hx2,rfl⟩
  ·rcases Il hy with⟨_,rfl⟩|⟨h2,_⟩
   ·rfl
   ·exact absurd h1 h2
  ·rcases Il hy with⟨h2,_⟩|⟨_,b,y1,y2,_,hb,_,_,hy1,hy2,rfl⟩
   ·exact absurd h2 h1
   ·rw[GR f (x:=x1) (y:=x2) (u:=y1) (v:=y2) rfl rfl] at hc
    obtain⟨_,hc⟩:=TS hc
    obtain⟨h3,hc⟩:=TS hc
    obtain⟨h4,h5⟩:=TS hc
    have e:=(Hv _ _).1 h3
    rw[HC n a x1 hx1,HC n b y1 hy1] at e
    subst e
    rw[ih a x1 y1 hx1 hy1 h4,ih _ x2 y2 hx2 hy2 h5]
theorem AAp {n:Nat} {b:AC} {y:AA} (hy:y∈spF es n b) (hk:y.Kind=0):Ao b=1∧y=BM (FC b):=by
 cases n with
 | zero=>cases hy
 | succ n =>
  rcases Il hy with h | ⟨_,a,x1,x2,_,_,_,hj,_,_,rfl⟩
  ·exact h
  ·have:=XV hj
   have hk:MD es (Bl es a (b&&&~~~a))=0:=hk
   omega
theorem ABS {a s:AC} (h:inS a s=true):s&&&~~~(s&&&~~~a)=a:=by
 refine KW fun n=>?_
 rw[IH,IH]
 have h2:=(EE a s).1 h n
 cases h3:Ad a n <;> cases h4:Ad s n <;> simp_all
theorem ACN {n:Nat} {s:AC} {t:AA} (h:t∈spF es (n+1) s) (hd:isD t=true) (hc:Ao s≠1):∃ i x,i∈BS s∧Fk es (s&&&~~~AN i) (AN i)=true∧x∈spF es n (s&&&~~~AN i)∧isD x=true∧t=Cx es (s&&&~~~AN i) (AN i) x (BM i):=by
 rcases Il h with⟨h1,_⟩|⟨_,a,x,y,h2,h3,h4,hj,hx,hy,rfl⟩
 ·exact absurd h1 hc
 ·rw[Zp,Bool.and_eq_true] at hd
  obtain⟨hd1,hd2⟩:=hd
  have hk:(Cx es a (s&&&~~~a) x y).Kids=[x,y]:=rfl
  rw[hk] at hd1
  rw[Rj hk] at hd2
  have hyk:y.Kind=0:=by simpa using hd2
  obtain⟨hb,hyl⟩:=AAp hy hyk
  obtain⟨e1,e2,e3⟩:=Qn hb
  have ea:s&&&~~~AN (FC (s&&&~~~a))=a:=by rw[← e1];exact ABS h3
  refine⟨FC (s&&&~~~a),x,?_,?_,?_,?_,?_⟩
  ·refine(FJ s _).2 ((EE _ s).1 (AAQ a s) _ ?_)
   have hh:∀ i,s&&&~~~a=AN i→0≤i→i<64→Ad (s&&&~~~a) i=true:=fun i h1 h2 h3=>by rw[h1,Gy];simp[h2,h3]
   exact hh _ e1 e2 e3
  ·rw[ea,← e1];exact hj
  ·rw[ea];exact hx
  ·simp at hd1;exact hd1.1
  ·rw[ea,← e1,← hyl]
theorem AEP {m n:Nat} (h:m≤n):(DM m).toNat≤(DM n).toNat:=by rw[Gg,Gg];omega
theorem Wm (a b:AC):EN a b≤0 ↔ a.toNat≤b.toNat:=by
 unfold EN
 split
 ·omega
 ·split <;> omega
theorem OJ {c d:Int}:lex c d≤0 ↔ c<0∨(c=0∧d≤0):=by
 unfold lex
 split <;> omega
theorem AGd {x y:AA} (h:Cq f x y≤0):(CA f x).toNat≤(CA f y).toNat:=by
 have key:∀ d,lex (EN (CA f x) (CA f y)) d≤0→(CA f x).toNat≤(CA f y).toNat:=fun d hd=>by
  rcases OJ.1 hd with h1 | ⟨h1,_⟩
  ·exact(Wm _ _).1 (by omega)
  ·exact(Wm _ _).1 (by omega)
 by_cases hx:x.Kids.length=2
 ·obtain⟨a,b,hk⟩:=EO hx
  by_cases hy:y.Kids.length=2
  ·obtain⟨c,d,hk2⟩:=EO hy
   rw[GR f hk hk2] at h;exact key _ h
  ·rw[Hp f hk hy] at h;exact key _ h
 ·rw[FK f hx] at h;exact key _ h
theorem ZN (i:Int):Cq f (BM i) (BM i)=0:=by
 rw[FK f (by show ([]:List AA).length≠2;simp)]
 rw[if_neg (by show ¬ ([]:List AA).length=2;simp)]
 have h:∀ a:AC,EN a a=0:=fun a=>(Hv a a).2 rfl
 rw[h,h];rfl
theorem AJd {n:Nat} {a b:AC} {d x:AA} {i:Int} (hd:d∈spF es n a) (hx:x∈spF es n a) (h:Cq f d x≤0):Cq f (Cx es a b d (BM i)) (Cx es a b x (BM i))≤0:=by
 have hc:=AGd h
 have hz:∀ a:AC,EN a a=0:=fun a=>(Hv a a).2 rfl
 rw[GR f (x:=d) (y:=BM i) (u:=x) (v:=BM i) rfl rfl,HC n a d hd,HC n a x hx,hz,ZN]
 have h1:(CA f (Cx es a b d (BM i))).toNat≤(CA f (Cx es a b x (BM i))).toNat:=by
  rw[NS f (t:=Cx es a b d (BM i)) (x:=d) (y:=BM i) rfl,NS f (t:=Cx es a b x (BM i)) (x:=x) (y:=BM i) rfl,HC n a d hd,HC n a x hx]
  refine AEP ?_
  show _+_+(f a (AX (BM i)) (DF es (Bl es a b))).toNat≤_+_+(f a (AX (BM i)) (DF es (Bl es a b))).toNat
  omega
 have h2:=(Wm _ _).2 h1
 rw[OJ]
 have h3:lex 0 (lex (Cq f d x) 0)≤0:=by
  rw[OJ];right
  refine⟨rfl,?_⟩
  rw[OJ];omega
 omega
theorem MF {M:Nat} (hsz:∀ n s t,Ao s≤5→t∈spF es n s→t.size≤M):∀ (n:Nat) (s:AC),Ao s≤5→(DD es f n s=none→∀ x∈spF es n s,isD x=false) ∧
  ∀ t,DD es f n s=some t→t∈spF es n s∧isD t=true∧∀ x∈spF es n s,isD x=true→Cq f t x≤0:=by
 intro n
 induction n with
 | zero=>intro s _;exact⟨fun _ x hx=>(by cases hx),fun t h=>(by cases h)⟩
 | succ n ih =>
  intro s hs
  by_cases hc:Ao s=1
  ·have e:DD es f (n+1) s=some (BM (FC s)):=by rw[DD,if_pos hc]
   have e2:spF es (n+1) s=[BM (FC s)]:=by rw[spF,if_pos hc]
   rw[e,e2]
   refine⟨fun h=>(by cases h),fun t h=>?_⟩
   injection h with h;subst h
   refine⟨List.mem_singleton.2 rfl,rfl,fun x hx _=>?_⟩
   rw[List.mem_singleton] at hx
   subst hx
   rw[ZN];exact Int.le_refl _
  ·have small:∀ i∈BS s,AN i≠0#64∧inS (AN i) s=true∧Ao (s&&&~~~AN i)≤5∧Ao (AN i)=1∧FC (AN i)=i∧s&&&~~~(s&&&~~~AN i)=AN i:=fun i hi=>by
    have hr:=Eh s i hi
    have hb:∀ n,Ad (AN i) n=true ↔ n=i:=fun n=>by
     rw[Gy];simp
     constructor
     ·rintro⟨_,h⟩;exact h.symm
     ·rintro rfl;exact⟨hr,rfl⟩
    have hin:inS (AN i) s=true:=(EE _ _).2 fun n hn=>by rw[(hb n).1 hn];exact(FJ s i).1 hi
    have hm:BS (AN i)=[i]:=by
     have h1:=IU (AN i)
     have h2:∀ n,n∈BS (AN i) ↔ n=i:=fun n=>(FJ _ n).trans (hb n)
     cases hl:BS (AN i) with
     | nil=>have:=(h2 i).2 rfl;rw[hl] at this;cases this
     | cons p l =>
      have hp:=(h2 p).1 (by rw[hl];exact List.mem_cons_self)
      subst hp
      cases l with
      | nil=>rfl
      | cons q l =>
       have hq:=(h2 q).1 (by rw[hl];simp)
       rw[hl] at h1
       have:=(List.pairwise_cons.1 h1).1 q (by simp)
       omega
    have hsp:=JJ hin
    refine⟨fun h=>?_,hin,by omega,by unfold Ao;rw[hm];rfl,by unfold FC;rw[hm],ABS hin⟩
    have:=(hb i).2 rfl
    rw[h,HS] at this;cases this
   have e:DD es f (n+1) s=((BS s).map fun i=>Hi es (s&&&~~~AN i) (AN i) i (DD es f n (s&&&~~~AN i))).foldl (LS f) none:=by rw[DD,if_neg hc]
   obtain⟨p1,p2⟩:=AFT f ((BS s).map fun i=>Hi es (s&&&~~~AN i) (AN i) i (DD es f n (s&&&~~~AN i))) none
   rw[← e] at p1 p2
   -- a candidate is a deep tree
   have cand:∀ i∈BS s,∀ t,Hi es (s&&&~~~AN i) (AN i) i (DD es f n (s&&&~~~AN i))=some t→∃ d,DD es f n (s&&&~~~AN i)=some d∧Fk es (s&&&~~~AN i) (AN i)=true∧t=Cx es (s&&&~~~AN i) (AN i) d (BM i):=fun i _ t ht=>by
    unfold Hi at ht
    split at ht
    ·rename_i hj
     obtain⟨d,h1,h2⟩:=DC ht
     exact⟨d,h1,hj,h2.symm⟩
    ·cases ht
   have over:∀ x∈spF es (n+1) s,isD x=true→∃ i∈BS s,∃ t,Hi es (s&&&~~~AN i) (AN i) i (DD es f n (s&&&~~~AN i))=some t∧Cq f t x≤0:=fun x hx hdx=>by
    obtain⟨i,y,hi,hj,hy,hdy,rfl⟩:=ACN hx hdx hc
    obtain⟨_,_,h5,_⟩:=small i hi
    obtain⟨q1,q2⟩:=ih (s&&&~~~AN i) h5
    cases hb:DD es f n (s&&&~~~AN i) with
    | none=>have:=q1 hb y hy;rw[this] at hdy;cases hdy
    | some d =>
     obtain⟨r1,r2,r3⟩:=q2 d hb
     exact⟨i,hi,Cx es (s&&&~~~AN i) (AN i) d (BM i),by unfold Hi;rw[if_pos hj,hb];rfl,AJd r1 hy (r3 y hy hdy)⟩
   have mem:∀ i∈BS s,∀ t,Hi es (s&&&~~~AN i) (AN i) i (DD es f n (s&&&~~~AN i))=some t→t∈spF es (n+1) s∧isD t=true:=fun i hi t ht=>by
    obtain⟨d,h1,hj,rfl⟩:=cand i hi t ht
    obtain⟨h2,h3,h5,h6,h7,h8⟩:=small i hi
    obtain⟨r1,r2,_⟩:=(ih (s&&&~~~AN i) h5).2 d h1
    have hsp:=JJ h3
    refine⟨?_,?_⟩
    ·have hn:1≤n:=by
      cases n with
      | zero=>cases r1
      | succ n=>omega
     have hleaf:BM i∈spF es n (s&&&~~~(s&&&~~~AN i)):=by
      rw[h8]
      obtain⟨k,rfl⟩:∃ k,n=k+1:=⟨n - 1,by omega⟩
      rw[spF,if_pos h6,h7];exact List.mem_singleton.2 rfl
     have ha0:s&&&~~~AN i≠0#64:=fun h0=>by
      have:AN i=s:=Yy h3 h0
      rw[this] at h6;exact hc h6
     have hne:s&&&~~~AN i≠s:=fun h0=>by rw[h0] at hsp;omega
     have:=AGP (es:=es) (n:=n) (s:=s) (a:=s&&&~~~AN i) (x:=d) (y:=BM i) hc ha0 (AAQ _ _) hne (by rw[h8];exact hj) r1 hleaf
     rw[h8] at this;exact this
    ·have hk:(Cx es (s&&&~~~AN i) (AN i) d (BM i)).Kids=[d,BM i]:=rfl
     rw[Zp,Rj hk,hk]
     simp only[List.all_cons,List.all_nil,r2,Bool.true_and]
     rfl
   refine⟨fun hnone x hx=>?_,fun t ht=>?_⟩
   ·obtain⟨_,hall⟩:=p1 hnone
    cases hdx:isD x with
    | false=>rfl
    | true =>
     obtain⟨i,hi,t,ht,_⟩:=over x hx hdx
     have:=hall _ (List.mem_map.2 ⟨i,hi,rfl⟩)
     rw[ht] at this;cases this
   ·obtain⟨h1,_,h3⟩:=p2 t ht
    have h1:=h1.resolve_left (fun h=>by cases h)
    obtain⟨i,hi,hti⟩:=List.mem_map.1 h1
    obtain⟨m1,m2⟩:=mem i hi t hti
    refine⟨m1,m2,fun x hx hdx=>?_⟩
    obtain⟨j,hj,u,hu,hux⟩:=over x hx hdx
    have hb:=h3 u (List.mem_map.2 ⟨j,hj,hu⟩)
    obtain⟨m3,m4⟩:=mem j hj u hu
    have htu:Cq f t u≤0:=by
     obtain⟨d1,g1,_,rfl⟩:=cand i hi t hti
     obtain⟨d2,g2,_,rfl⟩:=cand j hj u hu
     have k1:Nm (Cx es (s&&&~~~AN i) (AN i) d1 (BM i))=s&&&~~~AN i:=by
      rw[MX (a:=d1) (b:=BM i) rfl];exact HC n _ d1 ((ih _ (small i hi).2.2.1).2 d1 g1).1
     have k2:Nm (Cx es (s&&&~~~AN j) (AN j) d2 (BM j))=s&&&~~~AN j:=by
      rw[MX (a:=d2) (b:=BM j) rfl];exact HC n _ d2 ((ih _ (small j hj).2.2.1).2 d2 g2).1
     unfold FU at hb
     rw[k1,k2] at hb
     simp only[Bool.or_eq_false_iff,Bool.and_eq_false_iff,decide_eq_false_iff_not] at hb
     by_cases hij:s&&&~~~AN i=s&&&~~~AN j
     ·have e1:AN i=AN j:=by rw[← (small i hi).2.2.2.2.2,← (small j hj).2.2.2.2.2,hij]
      have e2:i=j:=by rw[← (small i hi).2.2.2.2.1,← (small j hj).2.2.2.2.1,e1]
      subst e2
      rw[g1] at g2;injection g2 with g2;subst g2
      have hz:∀ t,Cq f t t=0:=fun t=>by have:=Td f t.size t t (Nat.le_refl _) (Nat.le_refl _);omega
      rw[hz];exact Int.le_refl _
     ·rw[GR f (x:=d1) (y:=BM i) (u:=d2) (v:=BM j) rfl rfl]
      rw[OJ]
      have t1:AX d1=s&&&~~~AN i:=HC n _ d1 ((ih _ (small i hi).2.2.1).2 d1 g1).1
      have t2:AX d2=s&&&~~~AN j:=HC n _ d2 ((ih _ (small j hj).2.2.1).2 d2 g2).1
      have hne:(s&&&~~~AN i).toNat≠(s&&&~~~AN j).toNat:=fun h=>hij (BitVec.eq_of_toNat_eq h)
      rw[t1,t2]
      have hle:∀ (a b:AC),a.toNat<b.toNat→EN a b = -1:=fun a b h=>by unfold EN;rw[if_pos h]
      by_cases hcost:(CA f (Cx es (s&&&~~~AN i) (AN i) d1 (BM i))).toNat<(CA f (Cx es (s&&&~~~AN j) (AN j) d2 (BM j))).toNat
      ·left;rw[hle _ _ hcost];decide
      ·have he:(CA f (Cx es (s&&&~~~AN i) (AN i) d1 (BM i))).toNat=(CA f (Cx es (s&&&~~~AN j) (AN j) d2 (BM j))).toNat:=by omega
       right
       refine⟨(Hv _ _).2 (BitVec.eq_of_toNat_eq he),?_⟩
       rw[OJ];left
       rw[hle _ _ (by omega)];decide
    have tri:=AIH f M t u x (hsz _ s t hs m1) (hsz _ s u hs m3) (hsz _ s x hs hx)
    exact(tri.1 htu hux).1
end
end
section
theorem XS {α:Type} (k k':AC) (v:α):∀ es:List (AC × α),Cs k (IE k' v es)=if k=k' then some v else Cs k es:=by
 intro es
 induction es with
 | nil =>
  simp only[IE,Cs]
  by_cases h:k=k'
  ·rw[if_pos (by simpa using h),if_pos h]
  ·rw[if_neg (by simpa using h),if_neg h]
 | cons e l ih =>
  simp only[IE]
  by_cases h1:k'=e.1
  ·rw[if_pos (by simpa using h1)]
   simp only[Cs]
   by_cases h:k=k'
   ·rw[if_pos (by simpa using h),if_pos h]
   ·rw[if_neg (by simpa using h),if_neg h,if_neg (by simpa using fun e=>h (e.trans h1.symm))]
  ·rw[if_neg (by simpa using h1)]
   simp only[Cs]
   by_cases h2:k=e.1
   ·have h3:¬ k=k':=fun h=>h1 (h.symm.trans h2)
    rw[if_pos (by simpa using h2),if_neg h3,if_pos (by simpa using h2)]
   ·rw[if_neg (by simpa using h2),ih]
    by_cases h3:k=k'
    ·rw[if_pos h3,if_pos h3]
    ·rw[if_neg h3,if_neg h3,if_neg (by simpa using h2)]
theorem Ky {α:Type} (es:List (AC × α)) (k:AC) (z:α):QM es k z=some (match Cs k es with
  | some v=>(v,true)
  | none=>(z,false)):=by
 unfold QM
 cases Cs k es <;> rfl
theorem PJ {s:AC} {i:Int} (hi:i∈BS s):inS (AN i) s=true∧Ao (s&&&~~~AN i)+1=Ao s:=by
 have hr:=Eh s i hi
 have hb:∀ n,Ad (AN i) n=true ↔ n=i:=fun n=>by
  rw[Gy];simp
  constructor
  ·rintro⟨_,h⟩;exact h.symm
  ·rintro rfl;exact⟨hr,rfl⟩
 have hin:inS (AN i) s=true:=(EE _ _).2 fun n hn=>by rw[(hb n).1 hn];exact(FJ s i).1 hi
 have hm:BS (AN i)=[i]:=by
  have h1:=IU (AN i)
  have h2:∀ n,n∈BS (AN i) ↔ n=i:=fun n=>(FJ _ n).trans (hb n)
  cases hl:BS (AN i) with
  | nil=>have:=(h2 i).2 rfl;rw[hl] at this;cases this
  | cons p l =>
   have hp:=(h2 p).1 (by rw[hl];exact List.mem_cons_self)
   subst hp
   cases l with
   | nil=>rfl
   | cons q l =>
    have hq:=(h2 q).1 (by rw[hl];simp)
    rw[hl] at h1
    have:=(List.pairwise_cons.1 h1).1 q (by simp)
    omega
 have hc:Ao (AN i)=1:=by unfold Ao;rw[hm];rfl
 have:=JJ hin
 exact⟨hin,by omega⟩
theorem ACo {es:List AD} {f:If}:∀ (n m:Nat) (s:AC),Ao s≤n→Ao s≤m→1≤Ao s→DD es f n s=DD es f m s:=by
 intro n
 induction n with
 | zero=>intro m s h _ h1;omega
 | succ n ih =>
  intro m s hn hm h1
  obtain⟨m,rfl⟩:∃ k,m=k+1:=⟨m - 1,by omega⟩
  rw[DD,DD]
  by_cases hc:Ao s=1
  ·rw[if_pos hc,if_pos hc]
  ·rw[if_neg hc,if_neg hc]
   congr 1
   refine List.map_congr_left fun i hi=>?_
   obtain⟨_,h2⟩:=PJ hi
   rw[ih m (s&&&~~~AN i) (by omega) (by omega) (by omega)]
theorem ALF (a b:AC):∀ (post pre es:List AD),pre++post=es→wtC (DF es (EW a b pre.length post))≤(post.map fun e=>wtC e.Preds).sum:=by
 intro post
 induction post with
 | nil=>intro pre es _;exact Nat.le_refl _
 | cons e l ih =>
  intro pre es he
  have h1:=ih (pre++[e]) es (by rw[List.append_assoc];exact he)
  rw[CX] at h1
  rw[EW,List.map_cons,List.sum_cons]
  split
  ·have hg:BG es (pre.length:Int)=e:=by unfold BG;rw[← he,FB]
   have h2:DF es ((pre.length:Int) :: EW a b (pre.length+1) l)=e.Preds++DF es (EW a b (pre.length+1) l):=by
    unfold DF
    rw[List.flatMap_cons,hg]
   rw[h2]
   unfold wtC at h1 ⊢
   rw[List.map_append,List.sum_append]
   omega
  ·omega
theorem AFN (es:List AD) (a b:AC):wtC (DF es (Bl es a b))≤(es.map fun e=>wtC e.Preds).sum:=ALF a b es [] es rfl
theorem AG7 {cols:List Int} (hc:cols.length≤64) {t:AA} (ok:OkT cols t) (hnd:(Ag t.tour).Nodup) (hsz:t.size≤1000):∃ es,Ar t=some es∧JM es∧∀ a b,wtC (DF es (Bl es a b))≤t.size:=by
 obtain⟨es,h1,h2,h3,h4⟩:=AAy hc ok hnd hsz
 exact⟨es,h1,⟨h2,h3⟩,fun a b=>Nat.le_trans (AFN es a b) h4⟩
end
section
theorem AMD:okF Tryz.f79=true:=by kernel_rfl
def BW.l0 (x:List AB × List AB × Int × Int × AA × AA):Option (List AB) :=
 if(decide (x.2.2.2.1<x.2.2.1))=true then
  (AU x.2.1 x.2.2.2.1)>>=fun (e2:AB) =>
  Cn e2>>=fun r4 =>
  (room 128 x.1 ([r4]))>>=fun (z6:List AB) =>
  BW.l0 (z6,x.2.1,x.2.2.1,(w64 (x.2.2.2.1+1)),x.2.2.2.2.1,x.2.2.2.2.2)
 else
  some x.1
 partial_fixpoint
theorem BW.l0.ws:PC BW.l0 (fun x o=>∀ lo c (Q:EP) (hb:∀ s:List AB,o=s→Q (.exit 0) ⟨[(1,.lref 1 0),(2,.lref 2 0),(3,.own 100300 14 (s.map AB.av))],[(1,[.v (.i64 x.2.2.2.2.1.Kind),.v (.i64 x.2.2.2.2.1.Table),.v (.slice .foreign (x.2.2.2.2.1.Kids.map AA.av)),.v (.slice .foreign (x.2.2.2.2.1.Conj.map AB.av)),.v (.bool x.2.2.2.2.1.Hash)]),(2,[.v (.i64 x.2.2.2.2.2.Kind),.v (.i64 x.2.2.2.2.2.Table),.own 20000202 5 (x.2.2.2.2.2.Kids.map AA.av),.own 20000203 14 (x.2.2.2.2.2.Conj.map AB.av),.v (.bool x.2.2.2.2.2.Hash)])]⟩),AK Tryz.prog 79 lo c 0 (VQ Q) ⟨[(1,.lref 1 0),(2,.lref 2 0),(3,.own 100300 14 (x.1.map AB.av)),(10,.v (.slice .foreign (x.2.1.map AB.av))),(11,.v (.i64 x.2.2.1)),(12,.v (.i64 x.2.2.2.1))],[(1,[.v (.i64 x.2.2.2.2.1.Kind),.v (.i64 x.2.2.2.2.1.Table),.v (.slice .foreign (x.2.2.2.2.1.Kids.map AA.av)),.v (.slice .foreign (x.2.2.2.2.1.Conj.map AB.av)),.v (.bool x.2.2.2.2.1.Hash)]),(2,[.v (.i64 x.2.2.2.2.2.Kind),.v (.i64 x.2.2.2.2.2.Table),.own 20000202 5 (x.2.2.2.2.2.Kids.map AA.av),.own 20000203 14 (x.2.2.2.2.2.Conj.map AB.av),.v (.bool x.2.2.2.2.2.Hash)])]⟩):=by
 refine BW.l0.partial_correctness _ ?_
 ·intro TL SA x o h
  have AGf:AH TL _:=⟨SA⟩
  intro lo c Q hb
  refine AK.step mix ACQ (by kernel_rfl) ?_
  simp -implicitDefEqProofs only[go_sem,Tryz.f79]
  exact AR
instance BW.l0.w:type_of% (AH.mk BW.l0.ws):=⟨BW.l0.ws⟩
mutual
def BW.l1 (x:List AB × List AA × List AA × Int × Int × AA × AA):Option (List AA) :=
 if(decide (x.2.2.2.2.1<x.2.2.2.1))=true then
  (AU x.2.2.1 x.2.2.2.2.1)>>=fun (e11:AA) =>
  BW e11>>=fun r13 =>
  (room 72 x.2.1 ([r13]))>>=fun (z15:List AA) =>
  BW.l1 (x.1,z15,x.2.2.1,x.2.2.2.1,(w64 (x.2.2.2.2.1+1)),x.2.2.2.2.2.1,x.2.2.2.2.2.2)
 else
  some x.2.1
 partial_fixpoint
def BW (x:AA):Option (AA) :=
 BW.l0 (([]:List AB),x.Conj,(x.Conj.length:Int),0,x,(⟨0,0,[],[],false⟩:AA))>>=fun (o8:List AB) =>
 BW.l1 (o8,([]:List AA),x.Kids,(x.Kids.length:Int),0,x,(⟨0,0,[],[],false⟩:AA))>>=fun (o17:List AA) =>
 some (⟨x.Kind,x.Table,o17,o8,x.Hash⟩:AA)
 partial_fixpoint
end
theorem BW.l1.ws:PC BW.l1 (fun x o=>∀ lo c (Q:EP) (hb:∀ s:List AA,o=s→Q (.exit 2) ⟨[(1,.lref 1 0),(2,.lref 2 0),(3,.own 100300 14 (x.1.map AB.av)),(6,.own 100600 5 (s.map AA.av))],[(1,[.v (.i64 x.2.2.2.2.2.1.Kind),.v (.i64 x.2.2.2.2.2.1.Table),.v (.slice .foreign (x.2.2.2.2.2.1.Kids.map AA.av)),.v (.slice .foreign (x.2.2.2.2.2.1.Conj.map AB.av)),.v (.bool x.2.2.2.2.2.1.Hash)]),(2,[.v (.i64 x.2.2.2.2.2.2.Kind),.v (.i64 x.2.2.2.2.2.2.Table),.own 20000202 5 (x.2.2.2.2.2.2.Kids.map AA.av),.own 20000203 14 (x.2.2.2.2.2.2.Conj.map AB.av),.v (.bool x.2.2.2.2.2.2.Hash)])]⟩),AK Tryz.prog 79 lo c 1 (VQ Q) ⟨[(1,.lref 1 0),(2,.lref 2 0),(3,.own 100300 14 (x.1.map AB.av)),(6,.own 100600 5 (x.2.1.map AA.av)),(23,.v (.slice .foreign (x.2.2.1.map AA.av))),(24,.v (.i64 x.2.2.2.1)),(25,.v (.i64 x.2.2.2.2.1))],[(1,[.v (.i64 x.2.2.2.2.2.1.Kind),.v (.i64 x.2.2.2.2.2.1.Table),.v (.slice .foreign (x.2.2.2.2.2.1.Kids.map AA.av)),.v (.slice .foreign (x.2.2.2.2.2.1.Conj.map AB.av)),.v (.bool x.2.2.2.2.2.1.Hash)]),(2,[.v (.i64 x.2.2.2.2.2.2.Kind),.v (.i64 x.2.2.2.2.2.2.Table),.own 20000202 5 (x.2.2.2.2.2.2.Kids.map AA.av),.own 20000203 14 (x.2.2.2.2.2.2.Conj.map AB.av),.v (.bool x.2.2.2.2.2.2.Hash)])]⟩)∧PC BW (fun x r=>Fn Tryz.prog 79 [.agg (AA.C x)] (.agg (AA.C r))):=by
 refine BW.l1.mutual_partial_correctness _ _ ?_ ?_
 ·intro KD YQ Jc Wl x o h
  have Ty:AH KD _:=⟨Jc⟩
  have AJ2:AH YQ _:=⟨Wl⟩
  intro lo c Q hb
  refine AK.step mix ACQ (by kernel_rfl) ?_
  simp -implicitDefEqProofs only[go_sem,Tryz.f79]
  exact AR
 ·intro KD Jc x r h
  have Ty:AH KD _:=⟨Jc⟩
  refine Fn.of_lc mix ACQ AMD (by rfl) (flC (AA.flatC _) (flN)) (AA.flatC _) ?_
  simp -implicitDefEqProofs only[go_sem,Tryz.f79]
  exact AR
instance BW.w:type_of% (AH.mk BW.l1.ws.2):=⟨BW.l1.ws.2⟩
end
section
@[go_sem] theorem AQE:lrp Tryz.prog 15 6=(12,[]):=by kernel_rfl
theorem AKL:okF Tryz.f15=true:=by kernel_rfl
mutual
def Ch.l0 (x:Int × AA × AA):Option (Lp (Unit) (Bool)) :=
 if(decide (x.1<(x.2.1.Kids.length:Int)))=true then
  (AU x.2.1.Kids x.1)>>=fun (e10:AA) =>
  (AU x.2.2.Kids x.1)>>=fun (e12:AA) =>
  Ch (e10,e12)>>=fun r14 =>
  if r14=true then
   Ch.l0 ((w64 (x.1+1)),x.2.1,x.2.2)
  else
   some (.ret false)
 else
  some (.brk ())
 partial_fixpoint
def Ch (x:AA × AA):Option (Bool) :=
 if(x.1.Kind != x.2.Kind)=true then
  some false
 else
  if(x.1.Table != x.2.Table)=true then
   some false
  else
   if x.1.Hash=true then
    if x.2.Hash=true then
     if((x.1.Kids.length:Int) != (x.2.Kids.length:Int))=true then
      some false
     else
      CJ (x.1.Conj,x.2.Conj)>>=fun r6 =>
      if r6=true then
       Ch.l0 (0,x.1,x.2)>>=fun (o17:Lp (Unit) (Bool))=>match o17 with
       | .brk s20 =>
        some true
       | .ret r19 =>
        some r19
      else
       some false
    else
     some false
   else
    if x.2.Hash=true then
     some false
    else
     if((x.1.Kids.length:Int) != (x.2.Kids.length:Int))=true then
      some false
     else
      CJ (x.1.Conj,x.2.Conj)>>=fun r23 =>
      if r23=true then
       Ch.l0 (0,x.1,x.2)>>=fun (o26:Lp (Unit) (Bool))=>match o26 with
       | .brk s29 =>
        some true
       | .ret r28 =>
        some r28
      else
       some false
 partial_fixpoint
end
theorem Ch.l0.ws:PC Ch.l0 (fun x o=>∀ lo c (Q:EP) (hb:∀ s:Unit,o=Lp.brk s→Q (.exit 0) ⟨[],[]⟩) (hr:∀ (r:Bool) (L:AO),o=.ret r→DV Tryz.prog [.tmp 4] (.bool r) (fun _=>True) .ret L→Q .ret L),AK Tryz.prog 15 lo c 0 (VQ Q) ⟨[(2,.lref 2 0),(3,.lref 3 0),(5,.v (.i64 x.1))],[(2,[.v (.i64 x.2.1.Kind),.v (.i64 x.2.1.Table),.v (.slice .foreign (x.2.1.Kids.map AA.av)),.v (.slice .foreign (x.2.1.Conj.map AB.av)),.v (.bool x.2.1.Hash)]),(3,[.v (.i64 x.2.2.Kind),.v (.i64 x.2.2.Table),.v (.slice .foreign (x.2.2.Kids.map AA.av)),.v (.slice .foreign (x.2.2.Conj.map AB.av)),.v (.bool x.2.2.Hash)])]⟩)∧PC Ch (fun x r=>Fn Tryz.prog 15 [.agg (AA.C x.1),.agg (AA.C x.2)] (.bool r)):=by
 refine Ch.l0.mutual_partial_correctness _ _ ?_ ?_
 ·intro JR Ws JD Vg x o h
  have SH:AH JR _:=⟨JD⟩
  have AJm:AH Ws _:=⟨Vg⟩
  intro lo c Q hb hr
  refine AK.step mix AHi (by kernel_rfl) ?_
  simp -implicitDefEqProofs only[go_sem,Tryz.f15]
  exact AR
 ·intro JR JD x r h
  have SH:AH JR _:=⟨JD⟩
  refine Fn.of_lc mix AHi AKL (by rfl) (flC (AA.flatC _) (flC (AA.flatC _) (flN))) (.atom _) ?_
  simp -implicitDefEqProofs only[go_sem,Tryz.f15]
  exact AR
instance Ch.w:type_of% (AH.mk Ch.l0.ws.2):=⟨Ch.l0.ws.2⟩
end
end Go.Proofs.YtjnnhjgjecgomaaGreat.G
