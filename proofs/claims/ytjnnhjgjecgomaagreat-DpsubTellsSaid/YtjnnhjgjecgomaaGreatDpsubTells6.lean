/-
Part 6 of the proof of DpsubTells: merged by mkclaim.py (a program of this repo) out of texts of wip/g and printed models.
-/
import Derived.Test.YtjnnhjgjecgomaaGreatDpsubTells5
set_option linter.unusedVariables false
set_option linter.unusedSimpArgs false
set_option maxRecDepth 100000
set_option maxHeartbeats 8000000
namespace Go.Proofs.YtjnnhjgjecgomaaGreat.G
section
open Classical
def asJ (x:JY):AO:=⟨x.Pred,x.Left,x.Right,x.Home⟩
def asO (x:Fb):AK:=⟨x.Kind,x.Conj,x.Left,x.Right,x.Own,x.Home⟩
def OX (g:Ew):AG:=⟨g.Joins.map asJ,g.Ops.map asO⟩
theorem AGH {all:List AA} {owns:List AC} {i:Int} {l r:AC} {home:Int} {g0:AG} (t:AA):∀ (post pre:List AB) (s:AC) (g:AG),pre++post=t.Conj→g.Joins.length+post.length≤1000000→pre.length+post.length≤1000000→(∀ p∈post,p.size≤1000000) →
  AP.l3 (all,owns,i,l,r,home,s,(pre.length:Int),g0,g,t)=some (s|||KQ post,⟨g.Joins++(if t.Kind=1 then post.map fun p=>⟨p,p.tabs&&&l,p.tabs&&&r,home⟩ else []),g.Ops⟩):=by
 intro post
 induction post with
 | nil =>
  intro pre s g e h h2 _
  rw[List.append_nil] at e;subst e
  rw[AP.l3,if_neg (dge (by simp))]
  simp[KQ]
 | cons x post ih =>
  intro pre s g e h h2 hs
  rw[List.length_cons] at h h2
  have hl:pre.length+(post.length+1)=t.Conj.length:=by rw[← e,List.length_append];rfl
  have hx:=hs x List.mem_cons_self
  rw[AP.l3,if_pos (dlt (by dsimp only;omega))]
  dsimp only
  have hg:AX t.Conj (pre.length:Int)=some x:=by rw[← e];exact TN _ _ _
  rw[hg,AU (by omega)]
  simp -implicitDefEqProofs only[Option.bind_eq_bind,Option.bind_some]
  rw[Mz x (by omega)]
  simp -implicitDefEqProofs only[Option.bind_some]
  have hs':∀ p∈post,p.size≤1000000:=fun p hp=>hs p (List.mem_cons_of_mem _ hp)
  by_cases k:t.Kind=1
  ·rw[if_pos (by simpa using k),Bp (by simp only[List.length_cons,List.length_nil];omega)]
   simp -implicitDefEqProofs only[Option.bind_some]
   have:=ih (pre++[x]) (s|||x.tabs) ⟨g.Joins++[⟨x,x.tabs&&&l,x.tabs&&&r,home⟩],g.Ops⟩ (by rw[← e,List.append_assoc];rfl) (by rw[FS];omega) (by rw[FS];omega) hs'
   rw[FS] at this
   rw[this,if_pos k,if_pos k,Uc,BitVec.or_assoc]
   dsimp only
   rw[List.append_assoc];rfl
  ·rw[if_neg (by simpa using k)]
   have:=ih (pre++[x]) (s|||x.tabs) g (by rw[← e,List.append_assoc];rfl) (by omega) (by rw[FS];omega) hs'
   rw[FS] at this
   rw[this,if_neg k,if_neg k,Uc,BitVec.or_assoc]
theorem ABh {cols:List Int} {all:List AA} {g0 g1:AG} (hlen:all.length≤1000000) (ok:∀ y∈all,WJ cols y) (hsz:∀ y∈all,y.size≤1000000):∀ (post pre:List AA) (s:List AC),pre++post=all→s.length≤pre.length →
  AP.l0 (all,s,(pre.length:Int),g0,g1)=some (s++De post):=by
 intro post
 induction post with
 | nil =>
  intro pre s e h
  rw[List.append_nil] at e;subst e
  rw[AP.l0,if_neg (dge (by simp))]
  simp[De,MM]
 | cons x post ih =>
  intro pre s e h
  have hl:pre.length+(post.length+1)=all.length:=by rw[← e,List.length_append];rfl
  have hx:x∈all:=by rw[← e];simp
  rw[AP.l0,if_pos (dlt (by dsimp only;omega))]
  dsimp only
  have hg:AX all (pre.length:Int)=some x:=by rw[← e];exact TN _ _ _
  rw[hg,AU (by omega)]
  simp -implicitDefEqProofs only[Option.bind_eq_bind,Option.bind_some]
  by_cases k:1<x.Kind
  ·rw[if_pos (by simpa using k)]
   cases ok x hx with
   | leaf hk=>omega
   | op a b hk1 hk2 hks =>
    have g1':x.Kids[1]?=some b:=by rw[hks];rfl
    have sb:b.size<x.size:=Cc (by rw[hks];simp)
    have:=hsz x hx
    rw[g1']
    simp -implicitDefEqProofs only[Option.bind_some]
    rw[Cm b (by omega)]
    simp -implicitDefEqProofs only[Option.bind_some]
    rw[Bp (by simp only[List.length_cons,List.length_nil];omega)]
    simp -implicitDefEqProofs only[Option.bind_some]
    have:=ih (pre++[x]) (s++[AS b]) (by rw[← e,List.append_assoc];rfl) (by rw[FS,FS];omega)
    rw[FS] at this
    have e2:De (x :: post)=AS b :: De post:=by
     unfold De MM
     rw[List.filter_cons_of_pos (by simpa using k),List.map_cons,RJ hks]
    rw[this,e2,List.append_assoc];rfl
  ·rw[if_neg (by simpa using k)]
   have:=ih (pre++[x]) s (by rw[← e,List.append_assoc];rfl) (by rw[FS];omega)
   rw[FS] at this
   have e2:De (x :: post)=De post:=by
    unfold De MM
    rw[List.filter_cons_of_neg (by simpa using k)]
   rw[this,e2]
theorem AGQ {cols:List Int} {all:List AA} {owns:List AC} {g0:AG} (hlen:all.length≤100000) (holen:owns.length≤1000000) (ok:∀ y∈all,WJ cols y) (hsz:∀ y∈all,y.size≤100000):∀ (post pre:List (AA × Int)) (g:AG),(pre++post).map Prod.fst=all→(∀ x∈post,x.1.Kind≠0→ABM owns (AS x.1) x.2)→g.Joins.length+Dn (post.map Prod.fst)≤1000000→g.Ops.length≤pre.length →
  AP.l1 (all,owns,(pre.length:Int),g0,g)=some ⟨g.Joins++(Dp post).map asJ,g.Ops++(Es post).map asO⟩:=by
 intro post
 induction post with
 | nil =>
  intro pre g e _ h h2
  rw[List.append_nil] at e
  have hl:pre.length=all.length:=by rw[← e,List.length_map]
  rw[AP.l1,if_neg (dge (by dsimp only;omega))]
  simp[Dp,Es]
 | cons x post ih =>
  intro pre g e hsc h h2
  have hl:pre.length+(post.length+1)=all.length:=by rw[← e,List.length_map,List.length_append];rfl
  have hx:x.1∈all:=by rw[← e];simp
  rw[List.map_cons,Ny] at h
  rw[AP.l1,if_pos (dlt (by dsimp only;omega))]
  dsimp only
  have hg:AX all (pre.length:Int)=some x.1:=by
   have h5:=TN (pre.map Prod.fst) x.1 (post.map Prod.fst)
   rw[List.length_map] at h5
   rw[← e,List.map_append,List.map_cons];exact h5
  rw[hg,AU (by omega)]
  simp -implicitDefEqProofs only[Option.bind_eq_bind,Option.bind_some]
  have hs':∀ x∈post,x.1.Kind≠0→ABM owns (AS x.1) x.2:=fun y hy=>hsc y (List.mem_cons_of_mem _ hy)
  have hxs:=hsz x.1 hx
  have e1:Dp (x :: post)=Dp [x]++Dp post:=Xn [x] post
  have e2:Es (x :: post)=Es [x]++Es post:=NW [x] post
  have next:∀ g':AG,g'.Joins.length+Dn (post.map Prod.fst)≤1000000→g'.Ops.length≤pre.length+1→AP.l1 (all,owns,((pre.length+1:Nat):Int),g0,g')=some ⟨g'.Joins++(Dp post).map asJ,g'.Ops++(Es post).map asO⟩:=by
   intro g' h1 h2
   have:=ih (pre++[x]) g' (by rw[← e,List.append_assoc];rfl) hs' h1 (by rw[FS];exact h2)
   rw[FS] at this
   exact this
  cases hself:ok x.1 hx with
  | leaf hk hks hc =>
   rw[if_pos (by simpa using hk),next g (by omega) (by omega),e1,e2]
   have k1:Dp [x]=[]:=by simp[Dp,hk]
   have k2:Es [x]=[]:=by simp[Es,hk]
   rw[k1,k2];rfl
  | op a b hk1 hk2 hks =>
   have sa:a.size<x.1.size:=Cc (by rw[hks];simp)
   have sb:b.size<x.1.size:=Cc (by rw[hks];simp)
   have hcl:=Kc x.1
   have g0':x.1.Kids[0]?=some a:=by rw[hks];rfl
   have g1':x.1.Kids[1]?=some b:=by rw[hks];rfl
   rw[if_neg (by simp;omega),g0',g1']
   simp -implicitDefEqProofs only[Option.bind_some]
   rw[Cm a (by omega),Cm b (by omega)]
   simp -implicitDefEqProofs only[Option.bind_some]
   have hsx:=hsc x List.mem_cons_self (by omega)
   have ht:AS x.1=AS a|||AS b:=by
    unfold AS
    rw[Mv hks,Ct,Ct,GV [] (by omega)]
    have:Ad []=[]:=rfl
    rw[this,List.append_nil,Oe]
   rw[ht] at hsx
   rw[AJG holen hsx]
   simp -implicitDefEqProofs only[Option.bind_some]
   have h3:=AGH (all:=all) (owns:=owns) (i:=(pre.length:Int)) (l:=AS a) (r:=AS b) (home:=x.2) (g0:=g0) x.1 x.1.Conj [] 0#64 g (List.nil_append _) (by omega) (by simp;omega) (fun p hp=>by have:=Ju hp;omega)
   have t0:(([]:List AB).length:Int)=0:=rfl
   rw[t0] at h3
   rw[h3]
   simp -implicitDefEqProofs only[Option.bind_some]
   rw[BitVec.zero_or]
   by_cases k:1<x.1.Kind
   ·have k':¬ x.1.Kind=1:=by omega
    rw[if_pos (by simpa using k),if_neg k',List.append_nil,Bp (by simp only[List.length_cons,List.length_nil];omega)]
    simp -implicitDefEqProofs only[Option.bind_some]
    rw[next _ (by dsimp only;omega) (by dsimp only;rw[FS];omega),e1,e2]
    have k1:Dp [x]=[]:=by simp[Dp,k']
    have k2:Es [x]=[Vc x]:=by simp[Es,k]
    have k3:(⟨x.1.Kind,x.1.Conj,KQ x.1.Conj&&&AS a,KQ x.1.Conj&&&AS b,AS b,x.2⟩:AK)=asO (Vc x):=by
     unfold asO Vc
     rw[Ly hks,RJ hks]
    rw[k1,k2,k3]
    dsimp only
    rw[List.append_assoc];rfl
   ·have k':x.1.Kind=1:=by omega
    rw[if_neg (by simpa using k),if_pos k',next _ (by dsimp only;rw[List.length_append,List.length_map];omega) (by dsimp only;omega),e1,e2]
    have k1:Dp [x]=mkJ x:=by simp[Dp,k']
    have k2:Es [x]=[]:=by simp[Es,k]
    have k3:(x.1.Conj.map fun p=>(⟨p,p.tabs&&&AS a,p.tabs&&&AS b,x.2⟩:AO))=(mkJ x).map asJ:=by
     unfold mkJ
     rw[List.map_map,Ly hks,RJ hks];rfl
    rw[k1,k2,k3]
    dsimp only
    rw[List.map_append,List.append_assoc];rfl
theorem AAj {cols:List Int} (hc:cols.length≤64) {t:AA} (ok:OkT cols t) (hnd:(Ad t.tour).Nodup) (hsz:t.size≤100000):AP t=some (OX (RT t)):=by
 have h1:=KY t
 have h2:=Ld t
 have hsy:∀ y∈t.tour,y.size≤100000:=fun y hy=>by have:=Jn t y hy;omega
 have holen:(De t.tour).length≤t.tour.length:=by rw[EY];exact List.length_filter_le _ _
 unfold AP
 rw[KJ t (by omega)]
 simp -implicitDefEqProofs only[Option.bind_eq_bind,Option.bind_some]
 have a0:=ABh (cols:=cols) (g0:=⟨[],[]⟩) (g1:=⟨[],[]⟩) (all:=t.tour) (by omega) ok (fun y hy=>by have:=hsy y hy;omega) t.tour [] [] (List.nil_append _) (Nat.le_refl _)
 have t0:(([]:List AA).length:Int)=0:=rfl
 rw[t0] at a0
 rw[a0]
 simp -implicitDefEqProofs only[Option.bind_some,List.nil_append]
 have hsc:=AGL hc (De t.tour) t ok hnd 0 (-1) [] (by rw[List.drop_zero,List.append_nil]) ⟨.inl rfl,fun k hk ho=>by rw[EY] at hk;omega⟩
 have a1:=AGQ (cols:=cols) (g0:=⟨[],[]⟩) (owns:=De t.tour) (all:=t.tour) (by omega) (by omega) ok hsy (EC t 0 (-1)) [] ⟨[],[]⟩ (by rw[List.nil_append];exact Il t ok _ _) hsc (by rw[Il t ok];simp;omega) (Nat.le_refl _)
 have t1:(([]:List (AA × Int)).length:Int)=0:=rfl
 rw[t1] at a1
 rw[a1]
 rfl
end
section
open Classical
def HF:List Fb→Nat→Int→Nat→Prop
 | [],_,_,_=>True
 | x :: l,i,home,top=>(x.Home=home∨((i:Int)<x.Home∧x.Home<(top:Int)))∧HF l (i+1) home top
theorem Wp:∀ (l l':List Fb) (i:Nat) (home:Int) (top:Nat),HF l i home top→HF l' (i+l.length) home top→HF (l++l') i home top:=by
 intro l
 induction l with
 | nil=>intro l' i home top _ h;exact h
 | cons x l ih =>
  intro l' i home top h h'
  refine⟨h.1,ih l' (i+1) home top h.2 ?_⟩
  rw[List.length_cons] at h'
  rw[show i+1+l.length=i+(l.length+1) by omega];exact h'
theorem AHb:∀ (l:List Fb) (i:Nat) (home home':Int) (top top':Nat),HF l i home top→top≤top'→(home=home'∨(((i+l.length:Nat):Int)≤home∧home<(top':Int)))→HF l i home' top':=by
 intro l
 induction l with
 | nil=>intro i home home' top top' _ _ _;trivial
 | cons x l ih =>
  intro i home home' top top' h h2 h3
  rw[List.length_cons] at h3
  refine⟨?_,ih (i+1) home home' top top' h.2 h2 (by omega)⟩
  rcases h.1 with h | h
  ·rcases h3 with h3 | h3
   ·exact .inl (h.trans h3)
   ·exact .inr (by omega)
  ·exact .inr (by omega)
theorem AKb:∀ (l:List Fb) (i:Nat) (home:Int) (top:Nat),HF l i home top→∀ k (h:k<l.length),l[k].Home=home∨(((i+k:Nat):Int)<l[k].Home∧l[k].Home<(top:Int)):=by
 intro l
 induction l with
 | nil=>intro i home top _ k h;cases h
 | cons x l ih =>
  intro i home top h k hk
  cases k with
  | zero=>exact h.1
  | succ k =>
   rw[List.getElem_cons_succ]
   have:=ih (i+1) home top h.2 k (by rw[List.length_cons] at hk;omega)
   rw[show i+(k+1)=i+1+k by omega];exact this
theorem ANS {t a b:AA} (h:t.Kids=[a,b]):CO t=CO a+CO b+if 1<t.Kind then 1 else 0:=by
 rw[← EY,← EY,← EY,Mv h,Fg,Fg,List.length_append,List.length_append,Uq h]
 congr 1
 split <;> rfl
theorem ZH {cols:List Int} (t:AA):OkT cols t→∀ off home,HF (Es (EC t off home)) off home (off+CO t)∧∀ x∈EC t off home,x.2=home∨((off:Int)≤x.2∧x.2<((off+CO t:Nat):Int)):=by
 induction t using AA.induct with
 | h t ih =>
  intro ok off home
  cases hself:ok.self with
  | leaf hk hks =>
   rw[Vi hks]
   refine⟨?_,fun x hx=>?_⟩
   ·have k2:Es [(t,home)]=[]:=by simp[Es,hk]
    rw[k2];trivial
   ·have:x=(t,home):=by simpa using hx
    rw[this];exact .inl rfl
  | op a b hk1 hk2 hks =>
   have oka:OkT cols a:=ok.kid (by rw[hks];simp)
   have okb:OkT cols b:=ok.kid (by rw[hks];simp)
   have hn:=ANS hks
   obtain⟨a1,a2⟩:=ih a (by rw[hks];simp) oka off home
   obtain⟨b1,b2⟩:=ih b (by rw[hks];simp) okb (off+CO a) (if 1<t.Kind then((off+CO a+CO b:Nat):Int) else home)
   have la:=OK oka off home
   have lb:=OK okb (off+CO a) (if 1<t.Kind then((off+CO a+CO b:Nat):Int) else home)
   rw[Vg hks,NW,NW]
   refine⟨Wp _ _ _ _ _ (Wp _ _ _ _ _ (AHb _ _ _ _ _ _ a1 (by omega) (.inl rfl)) ?_) ?_,fun x hx=>?_⟩
   ·rw[la]
    refine AHb _ _ _ _ _ _ b1 (by omega) ?_
    rw[lb]
    by_cases e:1<t.Kind
    ·rw[if_pos e];rw[if_pos e] at hn;right;omega
    ·rw[if_neg e];exact .inl rfl
   ·by_cases e:1<t.Kind
    ·have k2:Es [(t,home)]=[Vc (t,home)]:=by simp[Es,e]
     rw[k2];exact⟨.inl rfl,trivial⟩
    ·have k2:Es [(t,home)]=[]:=by simp[Es,e]
     rw[k2];trivial
   ·rw[List.mem_append,List.mem_append] at hx
    rcases hx with (hx | hx) | hx
    ·rcases a2 x hx with h | h
     ·exact .inl h
     ·right;omega
    ·rcases b2 x hx with h | h
     ·by_cases e:1<t.Kind
      ·rw[if_pos e] at h hn;right;omega
      ·rw[if_neg e] at h;exact .inl h
     ·right;omega
    ·have:x=(t,home):=by simpa using hx
     rw[this];exact .inl rfl
structure ABP (g:Ew):Prop where
 jl:g.Joins.length≤1000000
 ol:g.Ops.length≤1000000
 jp:∀ j∈g.Joins,j.Pred.size≤1000000
 ol2:∀ o∈g.Ops,o.Conj.length≤1000000
 op:∀ o∈g.Ops,∀ p∈o.Conj,p.size≤1000000
 jh:∀ j∈g.Joins,j.Home<(g.Ops.length:Int)
 oh:∀ i (h:i<g.Ops.length),g.Ops[i].Home = -1∨((i:Int)<g.Ops[i].Home∧g.Ops[i].Home<(g.Ops.length:Int))
theorem Ou {cols:List Int} {t:AA} (ok:OkT cols t) {off:Nat} {home:Int} {x:AA × Int} (hx:x∈EC t off home):x.1∈t.tour:=by
 rw[← Il t ok off home];exact List.mem_map_of_mem hx
theorem ABD {cols:List Int} {t:AA} (ok:OkT cols t) (hsz:t.size≤100000):ABP (RT t):=by
 have h1:=KY t
 have h2:=Ld t
 have lJ:=Ut ok 0 (-1)
 have lO:=OK ok 0 (-1)
 have hno:CO t≤t.tour.length:=List.length_filter_le _ _
 obtain⟨hf,hh⟩:=ZH t ok 0 (-1)
 have mJ:∀ j∈Dp (EC t 0 (-1)),∃ x∈EC t 0 (-1),j.Pred∈x.1.Conj∧j.Home=x.2:=by
  intro j hj
  obtain⟨x,hx,hj⟩:=List.mem_flatMap.1 hj
  split at hj
  ·obtain⟨p,hp,rfl⟩:=List.mem_map.1 hj
   exact⟨x,hx,hp,rfl⟩
  ·cases hj
 have mO:∀ o∈Es (EC t 0 (-1)),∃ x∈EC t 0 (-1),o.Conj=x.1.Conj:=by
  intro o ho
  obtain⟨x,hx,rfl⟩:=List.mem_map.1 ho
  exact⟨x,(List.mem_filter.1 hx).1,rfl⟩
 refine⟨by show (Dp _).length≤_;omega,by show (Es _).length≤_;omega,fun j hj=>?_,fun o ho=>?_,fun o ho p hp=>?_,fun j hj=>?_,fun i hi=>?_⟩
 ·obtain⟨x,hx,hp,_⟩:=mJ j hj
  have:=Ju hp
  have:=Jn t x.1 (Ou ok hx);omega
 ·obtain⟨x,hx,e⟩:=mO o ho
  have:=Kc x.1
  have:=Jn t x.1 (Ou ok hx)
  rw[e];omega
 ·obtain⟨x,hx,e⟩:=mO o ho
  rw[e] at hp
  have:=Ju hp
  have:=Jn t x.1 (Ou ok hx);omega
 ·obtain⟨x,hx,hp,e⟩:=mJ j hj
  have e2:(RT t).Ops.length=CO t:=lO
  rw[e,e2]
  rcases hh x hx with h | h <;> omega
 ·have e2:(RT t).Ops.length=CO t:=lO
  have:=AKb _ _ _ _ hf i hi
  rw[Nat.zero_add,Nat.zero_add] at this
  rw[e2]
  exact this
end
section
def dH (g:Ew):Nat→Nat→Nat
 | 0,_=>0
 | f+1,i=>match g.Ops[i]? with
  | some o=>if o.Home<0 then 0 else dH g f o.Home.toNat+1
  | none=>0
theorem ANJ (g:Ew):∀ f i,dH g f i≤f:=by
 intro f
 induction f with
 | zero=>intro i;exact Nat.le_refl _
 | succ f ih =>
  intro i
  rw[dH]
  split
  ·split
   ·omega
   ·have:=ih (Int.toNat (by assumption:Fb).Home);omega
  ·omega
theorem AIY {g:Ew} (w:ABP g):∀ (n i f1 f2:Nat),g.Ops.length - i=n→g.Ops.length - i≤f1→g.Ops.length - i≤f2→dH g f1 i=dH g f2 i:=by
 intro n
 induction n using Nat.strongRecOn with
 | _ n ih =>
  intro i f1 f2 hn h1 h2
  by_cases hi:i<g.Ops.length
  ·obtain⟨f1,rfl⟩:∃ k,f1=k+1:=⟨f1 - 1,by omega⟩
   obtain⟨f2,rfl⟩:∃ k,f2=k+1:=⟨f2 - 1,by omega⟩
   rw[dH,dH,List.getElem?_eq_getElem hi]
   dsimp only
   rcases w.oh i hi with h | ⟨h3,h4⟩
   ·rw[if_pos (by omega),if_pos (by omega)]
   ·rw[if_neg (by omega),if_neg (by omega)]
    rw[ih (g.Ops.length - g.Ops[i].Home.toNat) (by omega) g.Ops[i].Home.toNat f1 f2 rfl (by omega) (by omega)]
  ·have hnone:g.Ops[i]?=none:=List.getElem?_eq_none (by omega)
   cases f1 <;> cases f2 <;> simp[dH,hnone]
theorem AGK {g:Ew} (w:ABP g) (hJ:g.Joins.length≤100000) (hO:g.Ops.length≤1000):WF (OX g) (fun i=>dH g g.Ops.length i) g.Ops.length:=by
 have hlen:(OX g).Ops.length=g.Ops.length:=by simp[OX]
 refine⟨by simpa [OX] using hJ,by rw[hlen];exact hO,fun i _=>ANJ g _ i,fun i hi=>?_,fun o ho=>?_,fun j hj=>?_⟩
 ·rw[hlen] at hi
  have e:(OX g).Ops[i].Home=g.Ops[i].Home:=by simp[OX,asO]
  rw[e]
  obtain⟨n,hn⟩:∃ n,g.Ops.length=n+1:=⟨g.Ops.length - 1,by omega⟩
  have hd:dH g g.Ops.length i=if g.Ops[i].Home<0 then 0 else dH g n g.Ops[i].Home.toNat+1:=by
   rw[hn,dH,List.getElem?_eq_getElem hi]
  rcases w.oh i hi with h | ⟨h3,h4⟩
  ·exact .inl ⟨h,by rw[hd,if_pos (by omega)]⟩
  ·refine .inr ⟨g.Ops[i].Home.toNat,by omega,by rw[hlen];omega,?_⟩
   rw[hd,if_neg (by omega)]
   rw[AIY w _ g.Ops[i].Home.toNat n g.Ops.length rfl (by omega) (by omega)]
 ·obtain⟨x,hx,rfl⟩:=List.mem_map.1 ho
  exact⟨w.ol2 x hx,w.op x hx⟩
 ·obtain⟨x,hx,rfl⟩:=List.mem_map.1 hj
  exact w.jp x hx
theorem AIZ (t:AA):(t.tour.map fun y=>wtC y.Conj).sum≤t.size:=by
 induction t using AA.induct with
 | h t ih =>
  have key:∀ l:List AA,(∀ y∈l,y∈t.Kids)→((l.flatMap AA.tour).map fun y=>wtC y.Conj).sum≤(l.map AA.size).sum:=by
   intro l
   induction l with
   | nil=>intro _;exact Nat.le_refl _
   | cons x l ih2 =>
    intro h
    have h1:=ih x (h x List.mem_cons_self)
    have h2:=ih2 fun y hy=>h y (List.mem_cons_of_mem _ hy)
    rw[List.flatMap_cons,List.map_append,List.sum_append,List.map_cons,List.sum_cons]
    omega
  have h1:=key t.Kids fun y hy=>hy
  rw[Db,EE,List.map_append,List.sum_append]
  simp only[List.map_cons,List.map_nil,List.sum_cons,List.sum_nil]
  unfold wtC at h1 ⊢
  omega
theorem AK5 {cols:List Int} {t:AA} (ok:OkT cols t):wtG (OX (RT t))≤t.size:=by
 refine Nat.le_trans ?_ (AIZ t)
 rw[← Il t ok 0 (-1)]
 unfold wtG OX RT Dp Es
 dsimp only
 generalize EC t 0 (-1)=l
 induction l with
 | nil=>exact Nat.le_refl _
 | cons x l ih =>
  have hj:∀ x:AA × Int,(((mkJ x).map asJ).map fun j=>j.Pred.size).sum=wtC x.1.Conj:=fun x=>by
   unfold mkJ wtC
   rw[List.map_map,List.map_map];rfl
  simp only[List.flatMap_cons,List.map_append,List.sum_append,List.map_cons,List.sum_cons]
  by_cases h1:x.1.Kind=1
  ·rw[if_pos h1,List.filter_cons_of_neg (by simp;omega),hj]
   omega
  ·rw[if_neg h1]
   by_cases h2:1<x.1.Kind
   ·rw[List.filter_cons_of_pos (by simpa using h2)]
    simp only[List.map_nil,List.sum_nil,List.map_cons,List.sum_cons,asO,Vc]
    omega
   ·rw[List.filter_cons_of_neg (by simpa using h2)]
    simp only[List.map_nil,List.sum_nil]
    omega
theorem AAl {cols:List Int} (hc:cols.length≤64) {t:AA} (ok:OkT cols t) (hnd:(Ad t.tour).Nodup) (hsz:t.size≤1000):∃ es,BD t=some es∧es.length≤101000∧(∀ e∈es,e.Preds.length≤1000000∧∀ p∈e.Preds,p.size≤1000000)∧(es.map fun e=>wtC e.Preds).sum≤t.size:=by
 have h1:=KY t
 have h2:=Ld t
 have lJ:=Ut ok 0 (-1)
 have lO:=OK ok 0 (-1)
 have hno:CO t≤t.tour.length:=List.length_filter_le _ _
 obtain⟨es,q1,q2,q3,q4⟩:=ABb (AAj hc ok hnd (by omega)) (AGK (ABD ok (by omega)) (by show (Dp _).length≤_;omega) (by show (Es _).length≤_;omega))
 exact⟨es,q1,q2,q3,by rw[q4];exact AK5 ok⟩
end
section
theorem AJC:okF Tryz.f121=true:=by kernel_rfl
def Df (x:AC × AC):Option (Bool) :=
 some ((x.1&&&~~~x.2) == 0#64)
instance Df.w:AH Df (fun x r=>Fn Tryz.prog 121 [.w x.1,.w x.2] (.bool r)):=⟨by
 intro x r h
 rw[Df] at h
 try dsimp only
 refine Fn.of_lc mix AJb AJC (by rfl) (flC (.atom _) (flC (.atom _) (flN))) (.atom _) ?_
 simp -implicitDefEqProofs only[go_sem,Tryz.f121]
 exact AN⟩
end
section
theorem AK1:okF Tryz.f92=true:=by kernel_rfl
def CL.l0 (x:AC × AC × List Int × List AD × Int × Int):Option (List Int) :=
 if(decide (x.2.2.2.2.2<x.2.2.2.2.1))=true then
  (AX x.2.2.2.1 x.2.2.2.2.2)>>=fun (e2:AD) =>
  Df (e2.Uses,(x.1|||x.2.1))>>=fun r4 =>
  if r4=true then
   Df (e2.Uses,x.1)>>=fun r7 =>
   if r7=true then
    CL.l0 (x.1,x.2.1,x.2.2.1,x.2.2.2.1,x.2.2.2.2.1,(w64 (x.2.2.2.2.2+1)))
   else
    Df (e2.Uses,x.2.1)>>=fun r10 =>
    if r10=true then
     CL.l0 (x.1,x.2.1,x.2.2.1,x.2.2.2.1,x.2.2.2.2.1,(w64 (x.2.2.2.2.2+1)))
    else
     (room 8 x.2.2.1 ([x.2.2.2.2.2]))>>=fun (z13:List Int) =>
     CL.l0 (x.1,x.2.1,z13,x.2.2.2.1,x.2.2.2.2.1,(w64 (x.2.2.2.2.2+1)))
  else
   CL.l0 (x.1,x.2.1,x.2.2.1,x.2.2.2.1,x.2.2.2.2.1,(w64 (x.2.2.2.2.2+1)))
 else
  some x.2.2.1
 partial_fixpoint
theorem CL.l0.ws:PC CL.l0 (fun x o=>∀ lo c (Q:EP) (hb:∀ s:List Int,o=s→Q (.exit 0) ⟨[(7,.own 100700 1 (s.map AV.i64))],[]⟩),AJ Tryz.prog 92 lo c 0 (VQ Q) ⟨[(1,.v (.w x.1)),(2,.v (.w x.2.1)),(7,.own 100700 1 (x.2.2.1.map AV.i64)),(10,.v (.slice .foreign (x.2.2.2.1.map AD.av))),(11,.v (.i64 x.2.2.2.2.1)),(12,.v (.i64 x.2.2.2.2.2))],[]⟩):=by
 refine CL.l0.partial_correctness _ ?_
 ·intro Tb SB x o h
  have AGb:AH Tb _:=⟨SB⟩
  intro lo c Q hb
  refine AJ.step mix AHg (by kernel_rfl) ?_
  simp -implicitDefEqProofs only[go_sem,Tryz.f92]
  exact AN
instance CL.l0.w:type_of% (AH.mk CL.l0.ws):=⟨CL.l0.ws⟩
def CL (x:List AD × AC × AC):Option (List Int) :=
 CL.l0 (x.2.1,x.2.2,([]:List Int),x.1,(x.1.length:Int),0)>>=fun (o15:List Int) =>
 some o15
instance CL.w:AH CL (fun x r=>Fn Tryz.prog 92 [.slice .foreign (x.1.map AD.av),.w x.2.1,.w x.2.2] (.slice .foreign (r.map AV.i64))):=⟨by
 intro x r h
 rw[CL] at h
 try dsimp only
 refine Fn.of_lc mix AHg AK1 (by rfl) (flC (AQ _ AD.flat _) (flC (.atom _) (flC (.atom _) (flN)))) (AQ _ (fun _=>.atom _) _) ?_
 simp -implicitDefEqProofs only[go_sem,Tryz.f92]
 exact AN⟩
end
section
@[go_sem] theorem APN:lrp Tryz.prog 95 1=(24,[]):=by kernel_rfl
theorem AJm:okF Tryz.f95=true:=by kernel_rfl
def Ed (x:AD × AC × AC):Option (EH) :=
 Df (x.1.Left,x.2.1)>>=fun r1 =>
 if r1=true then
  Df (x.1.Right,x.2.2)>>=fun r4 =>
  Df (x.1.Right,x.2.1)>>=fun r6 =>
  if r6=true then
   Df (x.1.Left,x.2.2)>>=fun r9 =>
   some (⟨(x.1.Kind == 1),r4,r9⟩:EH)
  else
   some (⟨(x.1.Kind == 1),r4,false⟩:EH)
 else
  Df (x.1.Right,x.2.1)>>=fun r11 =>
  if r11=true then
   Df (x.1.Left,x.2.2)>>=fun r14 =>
   some (⟨(x.1.Kind == 1),false,r14⟩:EH)
  else
   some (⟨(x.1.Kind == 1),false,false⟩:EH)
instance Ed.w:AH Ed (fun x r=>Fn Tryz.prog 95 [.agg (AD.C x.1),.w x.2.1,.w x.2.2] (.agg (EH.C r))):=⟨by
 intro x r h
 rw[Ed] at h
 try dsimp only
 refine Fn.of_lc mix AMz AJm (by rfl) (flC (AD.flatC _) (flC (.atom _) (flC (.atom _) (flN)))) (EH.flatC _) ?_
 simp -implicitDefEqProofs only[go_sem,Tryz.f95]
 exact AN⟩
end
section
theorem ALl:okF Tryz.f94=true:=by kernel_rfl
theorem ADj:okF Tryz.f93=true:=by kernel_rfl
theorem ALN:okF Tryz.f96=true:=by kernel_rfl
@[go_sem] theorem AOw:lrp Tryz.prog 55 7=(9,[]):=by kernel_rfl
@[go_sem] theorem ANq:lrp Tryz.prog 55 14=(6,[1000008,2000010]):=by kernel_rfl
theorem ALO:okF Tryz.f55=true:=by kernel_rfl
section
attribute [local instance] Kg
def FP (x:AD × AC × AC):Option (Bool) :=
 Ed (x.1,x.2.1,x.2.2)>>=fun r1 =>
 if r1.inner=true then
  if r1.fits=true then
   some true
  else
   some r1.turned
 else
  some false
instance FP.w:AH FP (fun x r=>FnB Tryz.prog 94 [(3000000,[.v (.w x.2.1)]),(3000001,[.v (.w x.2.2)])] [.a (.agg [.i64 x.1.Kind,.slice .foreign (x.1.Preds.map AB.av),.w x.1.Uses,.w x.1.Left,.w x.1.Right]),.p 3000000,.p 3000001] (.bool r) [(3000000,[.v (.w x.2.1)]),(3000001,[.v (.w x.2.2)])]):=⟨by
 intro x r h
 rw[FP] at h
 try dsimp only
 refine FnB.of_lc mix AM9 ALl (by rfl) (by rfl) fun c=>?_
 simp -implicitDefEqProofs only[go_sem,Tryz.f94]
 obtain⟨r1,h2,h⟩:=AE h
 refine .plain _ _ rfl (Ed.w.w (x.1,x.2.1,x.2.2) _ h2) ?_
 try simp -implicitDefEqProofs only[go_sem]
 revert h;refine itE (fun h3 h=>?_) fun h3 h=>?_
 ·try simp -implicitDefEqProofs only[go_sem, *, -h]
  revert h;refine itE (fun h4 h=>?_) fun h4 h=>?_
  ·try simp -implicitDefEqProofs only[go_sem, *, -h]
   injection h with h;subst h
   first | exact⟨AL,[],by rfl,AL⟩ | exact⟨AL,[],by rfl⟩ | exact⟨AL,[],by(simp -implicitDefEqProofs only[go_sem, *] <;> first | done | rfl | trivial)⟩ | exact⟨[],by rfl,AL⟩ | exact⟨[],by rfl,by(simp -implicitDefEqProofs only[go_sem, *] <;> first | done | rfl | trivial)⟩
  ·try simp -implicitDefEqProofs only[go_sem, *, -h]
   injection h with h;subst h
   first | exact⟨AL,[],by rfl,AL⟩ | exact⟨AL,[],by rfl⟩ | exact⟨AL,[],by(simp -implicitDefEqProofs only[go_sem, *] <;> first | done | rfl | trivial)⟩ | exact⟨[],by rfl,AL⟩ | exact⟨[],by rfl,by(simp -implicitDefEqProofs only[go_sem, *] <;> first | done | rfl | trivial)⟩
 ·try simp -implicitDefEqProofs only[go_sem, *, -h]
  injection h with h;subst h
  first | exact⟨AL,[],by rfl,AL⟩ | exact⟨AL,[],by rfl⟩ | exact⟨AL,[],by(simp -implicitDefEqProofs only[go_sem, *] <;> first | done | rfl | trivial)⟩ | exact⟨[],by rfl,AL⟩ | exact⟨[],by rfl,by(simp -implicitDefEqProofs only[go_sem, *] <;> first | done | rfl | trivial)⟩⟩
end
section
attribute [local instance] Kg
def Ab.l0 (x:List Int × Int × Int × AC × AC × AW × List AD):Option (Lp (Unit) (Bool)) :=
 if(decide (x.2.2.1<x.2.1))=true then
  (AX x.1 x.2.2.1)>>=fun (e2:Int) =>
  (AX x.2.2.2.2.2.2 e2)>>=fun (e4:AD) =>
  FP (e4,x.2.2.2.1,x.2.2.2.2.1)>>=fun r6 =>
  if r6=true then
   Ab.l0 (x.1,x.2.1,(w64 (x.2.2.1+1)),x.2.2.2.1,x.2.2.2.2.1,x.2.2.2.2.2.1,x.2.2.2.2.2.2)
  else
   some (.ret false)
 else
  some (.brk ())
 partial_fixpoint
theorem Ab.l0.ws:PC Ab.l0 (fun x o=>∀ lo c (Q:EP) (hb:∀ s:Unit,o=Lp.brk s→Q (.exit 0) ⟨[],[(3000000,[.v (.w x.2.2.2.1)]),(3000001,[.v (.w x.2.2.2.2.1)]),(3000002,[.v (.i64 x.2.2.2.2.2.1.Kind),.v (.slice .foreign (x.2.2.2.2.2.1.Edges.map AV.i64)),.own 86002002 14 (x.2.2.2.2.2.1.Preds.map AB.av)]),(3000003,[.v (.slice .foreign (x.2.2.2.2.2.2.map AD.av))])]⟩) (hr:∀ (r:Bool) (L:AM),o=.ret r→Oj Tryz.prog [.tmp 4] (.bool r) (fun L=>∃ σ,FN σ=true∧vwN σ [] L.N [(3000000,[.v (.w x.2.2.2.1)]),(3000001,[.v (.w x.2.2.2.2.1)]),(3000002,[.v (.i64 x.2.2.2.2.2.1.Kind),.v (.slice .foreign (x.2.2.2.2.2.1.Edges.map AV.i64)),.own 65002002 14 (x.2.2.2.2.2.1.Preds.map AB.av)]),(3000003,[.v (.slice .foreign (x.2.2.2.2.2.2.map AD.av))])]) .ret L→Q .ret L),AJ Tryz.prog 93 lo c 0 (VQ Q) ⟨[(0,.fn 94 [] [.p 3000000,.p 3000001]),(2,.lref 3000003 0),(8,.v (.slice .foreign (x.1.map AV.i64))),(9,.v (.i64 x.2.1)),(10,.v (.i64 x.2.2.1))],[(3000000,[.v (.w x.2.2.2.1)]),(3000001,[.v (.w x.2.2.2.2.1)]),(3000002,[.v (.i64 x.2.2.2.2.2.1.Kind),.v (.slice .foreign (x.2.2.2.2.2.1.Edges.map AV.i64)),.own 86002002 14 (x.2.2.2.2.2.1.Preds.map AB.av)]),(3000003,[.v (.slice .foreign (x.2.2.2.2.2.2.map AD.av))])]⟩):=by
 refine Ab.l0.partial_correctness _ ?_
 ·intro Sc Iu x o h
  intro lo c Q hb hr
  refine AJ.step mix Xy (by kernel_rfl) ?_
  simp -implicitDefEqProofs only[go_sem,Tryz.f93]
  revert h;refine itE (fun h1 h=>?_) fun h1 h=>?_
  ·try simp -implicitDefEqProofs only[go_sem, *, -h]
   obtain⟨e2,h3,h⟩:=AE h;replace h3:=Dw h3;obtain⟨h3',h3⟩:=h3
   try simp -implicitDefEqProofs only[go_sem, *, -h]
   obtain⟨e4,h5,h⟩:=AE h;replace h5:=Dw h5;obtain⟨h5',h5⟩:=h5
   try simp -implicitDefEqProofs only[go_sem, *, -h]
   obtain⟨r6,h7,h⟩:=AE h
   have hw:=FP.w.w (e4,x.2.2.2.1,x.2.2.2.2.1) _ h7
   refine .vars [] [(3000000,3000000),(3000001,3000001)] _ _ _ _ hw AL (by rfl) (by rfl) (by rfl) (by rfl) AL AL AL ?_
   clear hw
   try simp -implicitDefEqProofs only[go_sem, *, -h]
   revert h;refine itE (fun h8 h=>?_) fun h8 h=>?_
   ·try simp -implicitDefEqProofs only[go_sem, *, -h]
    exact AJ.view [(86002002,some 86002002)] AL (Iu _ _ h lo c Q hb hr)
   ·try simp -implicitDefEqProofs only[go_sem, *, -h]
    injection h with h;subst h
    exact .inl (hr _ _ rfl (by first | exact(show _∧_ from⟨AL,[(65002002,some 86002002)],by rfl,AL⟩) | exact(show _∧_ from⟨AL,[(65002002,some 86002002)],by rfl⟩) | exact(show _∧_ from⟨AL,[(65002002,some 86002002)],by(simp -implicitDefEqProofs only[go_sem, *] <;> first | done | rfl | trivial)⟩) | exact(show _∧_ from⟨[(65002002,some 86002002)],by rfl,AL⟩) | exact(show _∧_ from⟨[(65002002,some 86002002)],by rfl,by(simp -implicitDefEqProofs only[go_sem, *] <;> first | done | rfl | trivial)⟩)))
  ·try simp -implicitDefEqProofs only[go_sem, *, -h]
   injection h with h;subst h
   exact .inr ⟨[(86002002,some 86002002)],_,by(simp -implicitDefEqProofs only[go_sem, *] <;> first | done | rfl | trivial),hb _ rfl⟩
instance Ab.l0.w:type_of% (AH.mk Ab.l0.ws):=⟨Ab.l0.ws⟩
end
section
attribute [local instance] Kg
def Ab (x:AC × AC × AW × List AD):Option (Bool) :=
 Ab.l0 (x.2.2.1.Edges,(x.2.2.1.Edges.length:Int),0,x.1,x.2.1,x.2.2.1,x.2.2.2)>>=fun (o9:Lp (Unit) (Bool))=>match o9 with
 | .brk s12 =>
  some true
 | .ret r11 =>
  some r11
instance Ab.w:AH Ab (fun x r=>FnB Tryz.prog 93 [(3000000,[.v (.w x.1)]),(3000001,[.v (.w x.2.1)]),(3000002,[.v (.i64 x.2.2.1.Kind),.v (.slice .foreign (x.2.2.1.Edges.map AV.i64)),.own 65002002 14 (x.2.2.1.Preds.map AB.av)]),(3000003,[.v (.slice .foreign (x.2.2.2.map AD.av))])] [.fn 94 [] [.p 3000000,.p 3000001],.p 3000002,.p 3000003] (.bool r) [(3000000,[.v (.w x.1)]),(3000001,[.v (.w x.2.1)]),(3000002,[.v (.i64 x.2.2.1.Kind),.v (.slice .foreign (x.2.2.1.Edges.map AV.i64)),.own 65002002 14 (x.2.2.1.Preds.map AB.av)]),(3000003,[.v (.slice .foreign (x.2.2.2.map AD.av))])]):=⟨by
 intro x r h
 rw[Ab] at h
 try dsimp only
 refine FnB.of_lc mix Xy ADj (by rfl) (by rfl) fun c=>?_
 simp -implicitDefEqProofs only[go_sem,Tryz.f93]
 obtain⟨o9,h10,h⟩:=AE h
 refine AJ.viewQ (AJ.view [(86002002,some 65002002)] AL (Ab.l0.w.w (x.2.2.1.Edges,(x.2.2.1.Edges.length:Int),0,x.1,x.2.1,x.2.2.1,x.2.2.2) _ h10 _ _ _ ?_ ?_))
 ·intro s12 hs';subst hs'
  try simp -implicitDefEqProofs only[go_sem]
  injection h with h;subst h
  first | exact⟨AL,[(65002002,some 86002002)],by rfl,AL⟩ | exact⟨AL,[(65002002,some 86002002)],by rfl⟩ | exact⟨AL,[(65002002,some 86002002)],by(simp -implicitDefEqProofs only[go_sem] <;> first | done | rfl | trivial)⟩ | exact⟨[(65002002,some 86002002)],by rfl,AL⟩ | exact⟨[(65002002,some 86002002)],by rfl,by(simp -implicitDefEqProofs only[go_sem] <;> first | done | rfl | trivial)⟩
 ·intro r11 L' hs' hL';subst hs'
  injection h with h;subst h
  first | exact hL' | (simp -implicitDefEqProofs only[go_sem];exact hL') | (simp -implicitDefEqProofs only[go_sem];simp -implicitDefEqProofs only[go_sem] at hL';exact hL')⟩
end
section
attribute [local instance] Kg
def Ay.l1 (x:List Int × Int × Int × List AB × Int × Int × List AD × AW × AW):Option (AW) :=
 if(decide (x.2.2.2.2.2.1<x.2.2.2.2.1))=true then
  (AX x.2.2.2.1 x.2.2.2.2.2.1)>>=fun (e18:AB) =>
  Cj e18>>=fun r20 =>
  (room 128 x.2.2.2.2.2.2.2.2.Preds ([(⟨0,0,0,(⟨0,0,0,(⟨false,0⟩:BV)⟩:BE),(⟨0,0,0,(⟨false,0⟩:BV)⟩:BE),[]⟩:AB)]))>>=fun (z22:List AB) =>
  (AX z22 (x.2.2.2.2.2.2.2.2.Preds.length:Int))>>=fun (e24:AB) =>
  Ay.l1 (x.1,x.2.1,x.2.2.1,x.2.2.2.1,x.2.2.2.2.1,(w64 (x.2.2.2.2.2.1+1)),x.2.2.2.2.2.2.1,x.2.2.2.2.2.2.2.1,(⟨x.2.2.2.2.2.2.2.2.Kind,x.2.2.2.2.2.2.2.2.Edges,(z22.set ((x.2.2.2.2.2.2.2.2.Preds.length:Int)).toNat r20)⟩:AW))
 else
  some x.2.2.2.2.2.2.2.2
 partial_fixpoint
theorem Ay.l1.ws:PC Ay.l1 (fun x o=>∀ lo c (Q:EP) (hb:∀ s:AW,o=s→Q (.exit 2) ⟨[(3,.lref 3 0),(6,.lref 6 0),(8,.lref 8 0),(63,.v (.slice .foreign (x.1.map AV.i64))),(64,.v (.i64 x.2.1)),(65,.v (.i64 x.2.2.1))],[(3,[.v (.slice .foreign (x.2.2.2.2.2.2.1.map AD.av))]),(6,[.v (.i64 x.2.2.2.2.2.2.2.1.Kind),.own 20000601 1 (x.2.2.2.2.2.2.2.1.Edges.map AV.i64),.own 70000602 14 (x.2.2.2.2.2.2.2.1.Preds.map AB.av)]),(8,[.v (.i64 s.Kind),.v (.slice .foreign (s.Edges.map AV.i64)),.own 70000802 14 (s.Preds.map AB.av)])]⟩),AJ Tryz.prog 55 lo c 1 (VQ Q) ⟨[(3,.lref 3 0),(6,.lref 6 0),(8,.lref 8 0),(63,.v (.slice .foreign (x.1.map AV.i64))),(64,.v (.i64 x.2.1)),(65,.v (.i64 x.2.2.1)),(73,.v (.slice .foreign (x.2.2.2.1.map AB.av))),(74,.v (.i64 x.2.2.2.2.1)),(75,.v (.i64 x.2.2.2.2.2.1))],[(3,[.v (.slice .foreign (x.2.2.2.2.2.2.1.map AD.av))]),(6,[.v (.i64 x.2.2.2.2.2.2.2.1.Kind),.own 20000601 1 (x.2.2.2.2.2.2.2.1.Edges.map AV.i64),.own 70000602 14 (x.2.2.2.2.2.2.2.1.Preds.map AB.av)]),(8,[.v (.i64 x.2.2.2.2.2.2.2.2.Kind),.v (.slice .foreign (x.2.2.2.2.2.2.2.2.Edges.map AV.i64)),.own 70000802 14 (x.2.2.2.2.2.2.2.2.Preds.map AB.av)])]⟩):=by
 refine Ay.l1.partial_correctness _ ?_
 ·intro AFX QI x o h
  intro lo c Q hb
  refine AJ.step mix ACI (by kernel_rfl) ?_
  simp -implicitDefEqProofs only[go_sem,Tryz.f55]
  revert h;refine itE (fun h17 h=>?_) fun h17 h=>?_
  ·try simp -implicitDefEqProofs only[go_sem, *, -h]
   obtain⟨e18,h19,h⟩:=AE h;replace h19:=Dw h19;obtain⟨h19',h19⟩:=h19
   try simp -implicitDefEqProofs only[go_sem, *, -h]
   obtain⟨r20,h21,h⟩:=AE h
   refine .plain _ _ rfl (Cj.w.w e18 _ h21) ?_
   try simp -implicitDefEqProofs only[go_sem, *, -h]
   obtain⟨z22,h23,h⟩:=AE h;replace h23:=Jq h23;obtain⟨h23',rfl⟩:=h23
   refine Gk.map (F:=AB.av) (xs:=x.2.2.2.2.2.2.2.2.Preds) (ys:=[(⟨0,0,0,(⟨0,0,0,(⟨false,0⟩:BV)⟩:BE),(⟨0,0,0,(⟨false,0⟩:BV)⟩:BE),[]⟩:AB)]) Yn ZX XB Wd rfl AB.len AL AL h23' ?_
   try simp -implicitDefEqProofs only[go_sem, *, -h]
   obtain⟨e24,h25,h⟩:=AE h;replace h25:=Dw h25;obtain⟨h25',h25⟩:=h25;have h25v:(x.2.2.2.2.2.2.2.2.Preds.length:Int)<((x.2.2.2.2.2.2.2.2.Preds++[(⟨0,0,0,(⟨0,0,0,(⟨false,0⟩:BV)⟩:BE),(⟨0,0,0,(⟨false,0⟩:BV)⟩:BE),[]⟩:AB)]).length:Int):=by have:=(List.getElem?_eq_some_iff.1 h25).1;omega
   try simp -implicitDefEqProofs only[go_sem, *, -h]
   refine Qm.map (F:=AB.av) (xs:=(x.2.2.2.2.2.2.2.2.Preds++[(⟨0,0,0,(⟨0,0,0,(⟨false,0⟩:BV)⟩:BE),(⟨0,0,0,(⟨false,0⟩:BV)⟩:BE),[]⟩:AB)])) (x:=e24) (x':=r20) AL AL (by rfl) (by rfl) (by rfl) h25 (by first | rfl | (first | rfl | simp -implicitDefEqProofs only[go_sem, *] <;> rfl)) ?_
   try simp -implicitDefEqProofs only[go_sem, *, -h]
   exact AJ.view [(20000601,some 20000601),(70000602,some 70000602),(70000802,some 50000085)] AL (QI _ _ h lo c Q hb)
  ·try simp -implicitDefEqProofs only[go_sem, *, -h]
   injection h with h;subst h
   exact .inr ⟨[(20000601,some 20000601),(70000602,some 70000602),(70000802,some 70000802)],_,by(simp -implicitDefEqProofs only[go_sem, *] <;> first | done | rfl | trivial),hb _ rfl⟩
instance Ay.l1.w:type_of% (AH.mk Ay.l1.ws):=⟨Ay.l1.ws⟩
end
section
attribute [local instance] Kg
def Ay.l0 (x:List Int × Int × Int × List AD × AW × AW):Option (AW) :=
 if(decide (x.2.2.1<x.2.1))=true then
  (AX x.1 x.2.2.1)>>=fun (e13:Int) =>
  (AX x.2.2.2.1 e13)>>=fun (e15:AD) =>
  Ay.l1 (x.1,x.2.1,x.2.2.1,e15.Preds,(e15.Preds.length:Int),0,x.2.2.2.1,x.2.2.2.2.1,x.2.2.2.2.2)>>=fun (o26:AW) =>
  Ay.l0 (x.1,x.2.1,(w64 (x.2.2.1+1)),x.2.2.2.1,x.2.2.2.2.1,o26)
 else
  some x.2.2.2.2.2
 partial_fixpoint
theorem Ay.l0.ws:PC Ay.l0 (fun x o=>∀ lo c (Q:EP) (hb:∀ s:AW,o=s→Q (.exit 0) ⟨[(6,.lref 6 0),(8,.lref 8 0)],[(6,[.v (.i64 x.2.2.2.2.1.Kind),.own 20000601 1 (x.2.2.2.2.1.Edges.map AV.i64),.own 70000602 14 (x.2.2.2.2.1.Preds.map AB.av)]),(8,[.v (.i64 s.Kind),.v (.slice .foreign (s.Edges.map AV.i64)),.own 70000802 14 (s.Preds.map AB.av)])]⟩),AJ Tryz.prog 55 lo c 0 (VQ Q) ⟨[(3,.lref 3 0),(6,.lref 6 0),(8,.lref 8 0),(63,.v (.slice .foreign (x.1.map AV.i64))),(64,.v (.i64 x.2.1)),(65,.v (.i64 x.2.2.1))],[(3,[.v (.slice .foreign (x.2.2.2.1.map AD.av))]),(6,[.v (.i64 x.2.2.2.2.1.Kind),.own 20000601 1 (x.2.2.2.2.1.Edges.map AV.i64),.own 70000602 14 (x.2.2.2.2.1.Preds.map AB.av)]),(8,[.v (.i64 x.2.2.2.2.2.Kind),.v (.slice .foreign (x.2.2.2.2.2.Edges.map AV.i64)),.own 70000802 14 (x.2.2.2.2.2.Preds.map AB.av)])]⟩):=by
 refine Ay.l0.partial_correctness _ ?_
 ·intro Rc Qb x o h
  have AFH:AH Rc _:=⟨Qb⟩
  intro lo c Q hb
  refine AJ.step mix ACI (by kernel_rfl) ?_
  simp -implicitDefEqProofs only[go_sem,Tryz.f55]
  exact AN
instance Ay.l0.w:type_of% (AH.mk Ay.l0.ws):=⟨Ay.l0.ws⟩
end
section
attribute [local instance] Kg
def FV (x:AD × AC × AC):Option (Bool) :=
 Ed (x.1,x.2.1,x.2.2)>>=fun r1 =>
 if(decide (x.1.Kind > 1))=true then
  if(decide (x.1.Kind≤4))=true then
   some ((!r1.inner)&&(r1.fits&&true))
  else
   some false
 else
  some false
instance FV.w:AH FV (fun x r=>FnB Tryz.prog 96 [(3000000,[.v (.w x.2.1)]),(3000001,[.v (.w x.2.2)])] [.a (.agg [.i64 x.1.Kind,.slice .foreign (x.1.Preds.map AB.av),.w x.1.Uses,.w x.1.Left,.w x.1.Right]),.p 3000000,.p 3000001] (.bool r) [(3000000,[.v (.w x.2.1)]),(3000001,[.v (.w x.2.2)])]):=⟨by
 intro x r h
 rw[FV] at h
 try dsimp only
 refine FnB.of_lc mix ANE ALN (by rfl) (by rfl) fun c=>?_
 simp -implicitDefEqProofs only[go_sem,Tryz.f96]
 obtain⟨r1,h2,h⟩:=AE h
 refine .plain _ _ rfl (Ed.w.w (x.1,x.2.1,x.2.2) _ h2) ?_
 try simp -implicitDefEqProofs only[go_sem]
 revert h;refine itE (fun h3 h=>?_) fun h3 h=>?_
 ·try simp -implicitDefEqProofs only[go_sem, *, -h]
  revert h;refine itE (fun h4 h=>?_) fun h4 h=>?_
  ·try simp -implicitDefEqProofs only[go_sem, *, -h]
   injection h with h;subst h
   first | exact⟨AL,[],by rfl,AL⟩ | exact⟨AL,[],by rfl⟩ | exact⟨AL,[],by(simp -implicitDefEqProofs only[go_sem, *] <;> first | done | rfl | trivial)⟩ | exact⟨[],by rfl,AL⟩ | exact⟨[],by rfl,by(simp -implicitDefEqProofs only[go_sem, *] <;> first | done | rfl | trivial)⟩
  ·try simp -implicitDefEqProofs only[go_sem, *, -h]
   injection h with h;subst h
   first | exact⟨AL,[],by rfl,AL⟩ | exact⟨AL,[],by rfl⟩ | exact⟨AL,[],by(simp -implicitDefEqProofs only[go_sem, *] <;> first | done | rfl | trivial)⟩ | exact⟨[],by rfl,AL⟩ | exact⟨[],by rfl,by(simp -implicitDefEqProofs only[go_sem, *] <;> first | done | rfl | trivial)⟩
 ·try simp -implicitDefEqProofs only[go_sem, *, -h]
  injection h with h;subst h
  first | exact⟨AL,[],by rfl,AL⟩ | exact⟨AL,[],by rfl⟩ | exact⟨AL,[],by(simp -implicitDefEqProofs only[go_sem, *] <;> first | done | rfl | trivial)⟩ | exact⟨[],by rfl,AL⟩ | exact⟨[],by rfl,by(simp -implicitDefEqProofs only[go_sem, *] <;> first | done | rfl | trivial)⟩⟩
end
section
attribute [local instance] Kg
def Ac.l0 (x:List Int × Int × Int × AC × AC × AW × List AD):Option (Lp (Unit) (Bool)) :=
 if(decide (x.2.2.1<x.2.1))=true then
  (AX x.1 x.2.2.1)>>=fun (e2:Int) =>
  (AX x.2.2.2.2.2.2 e2)>>=fun (e4:AD) =>
  FV (e4,x.2.2.2.1,x.2.2.2.2.1)>>=fun r6 =>
  if r6=true then
   Ac.l0 (x.1,x.2.1,(w64 (x.2.2.1+1)),x.2.2.2.1,x.2.2.2.2.1,x.2.2.2.2.2.1,x.2.2.2.2.2.2)
  else
   some (.ret false)
 else
  some (.brk ())
 partial_fixpoint
theorem Ac.l0.ws:PC Ac.l0 (fun x o=>∀ lo c (Q:EP) (hb:∀ s:Unit,o=Lp.brk s→Q (.exit 0) ⟨[],[(3000000,[.v (.w x.2.2.2.1)]),(3000001,[.v (.w x.2.2.2.2.1)]),(3000002,[.v (.i64 x.2.2.2.2.2.1.Kind),.v (.slice .foreign (x.2.2.2.2.2.1.Edges.map AV.i64)),.own 86002002 14 (x.2.2.2.2.2.1.Preds.map AB.av)]),(3000003,[.v (.slice .foreign (x.2.2.2.2.2.2.map AD.av))])]⟩) (hr:∀ (r:Bool) (L:AM),o=.ret r→Oj Tryz.prog [.tmp 4] (.bool r) (fun L=>∃ σ,FN σ=true∧vwN σ [] L.N [(3000000,[.v (.w x.2.2.2.1)]),(3000001,[.v (.w x.2.2.2.2.1)]),(3000002,[.v (.i64 x.2.2.2.2.2.1.Kind),.v (.slice .foreign (x.2.2.2.2.2.1.Edges.map AV.i64)),.own 65002002 14 (x.2.2.2.2.2.1.Preds.map AB.av)]),(3000003,[.v (.slice .foreign (x.2.2.2.2.2.2.map AD.av))])]) .ret L→Q .ret L),AJ Tryz.prog 93 lo c 0 (VQ Q) ⟨[(0,.fn 96 [] [.p 3000000,.p 3000001]),(2,.lref 3000003 0),(8,.v (.slice .foreign (x.1.map AV.i64))),(9,.v (.i64 x.2.1)),(10,.v (.i64 x.2.2.1))],[(3000000,[.v (.w x.2.2.2.1)]),(3000001,[.v (.w x.2.2.2.2.1)]),(3000002,[.v (.i64 x.2.2.2.2.2.1.Kind),.v (.slice .foreign (x.2.2.2.2.2.1.Edges.map AV.i64)),.own 86002002 14 (x.2.2.2.2.2.1.Preds.map AB.av)]),(3000003,[.v (.slice .foreign (x.2.2.2.2.2.2.map AD.av))])]⟩):=by
 refine Ac.l0.partial_correctness _ ?_
 ·intro SY It x o h
  intro lo c Q hb hr
  refine AJ.step mix Xy (by kernel_rfl) ?_
  simp -implicitDefEqProofs only[go_sem,Tryz.f93]
  revert h;refine itE (fun h1 h=>?_) fun h1 h=>?_
  ·try simp -implicitDefEqProofs only[go_sem, *, -h]
   obtain⟨e2,h3,h⟩:=AE h;replace h3:=Dw h3;obtain⟨h3',h3⟩:=h3
   try simp -implicitDefEqProofs only[go_sem, *, -h]
   obtain⟨e4,h5,h⟩:=AE h;replace h5:=Dw h5;obtain⟨h5',h5⟩:=h5
   try simp -implicitDefEqProofs only[go_sem, *, -h]
   obtain⟨r6,h7,h⟩:=AE h
   have hw:=FV.w.w (e4,x.2.2.2.1,x.2.2.2.2.1) _ h7
   refine .vars [] [(3000000,3000000),(3000001,3000001)] _ _ _ _ hw AL (by rfl) (by rfl) (by rfl) (by rfl) AL AL AL ?_
   clear hw
   try simp -implicitDefEqProofs only[go_sem, *, -h]
   revert h;refine itE (fun h8 h=>?_) fun h8 h=>?_
   ·try simp -implicitDefEqProofs only[go_sem, *, -h]
    exact AJ.view [(86002002,some 86002002)] AL (It _ _ h lo c Q hb hr)
   ·try simp -implicitDefEqProofs only[go_sem, *, -h]
    injection h with h;subst h
    exact .inl (hr _ _ rfl (by first | exact(show _∧_ from⟨AL,[(65002002,some 86002002)],by rfl,AL⟩) | exact(show _∧_ from⟨AL,[(65002002,some 86002002)],by rfl⟩) | exact(show _∧_ from⟨AL,[(65002002,some 86002002)],by(simp -implicitDefEqProofs only[go_sem, *] <;> first | done | rfl | trivial)⟩) | exact(show _∧_ from⟨[(65002002,some 86002002)],by rfl,AL⟩) | exact(show _∧_ from⟨[(65002002,some 86002002)],by rfl,by(simp -implicitDefEqProofs only[go_sem, *] <;> first | done | rfl | trivial)⟩)))
  ·try simp -implicitDefEqProofs only[go_sem, *, -h]
   injection h with h;subst h
   exact .inr ⟨[(86002002,some 86002002)],_,by(simp -implicitDefEqProofs only[go_sem, *] <;> first | done | rfl | trivial),hb _ rfl⟩
instance Ac.l0.w:type_of% (AH.mk Ac.l0.ws):=⟨Ac.l0.ws⟩
end
section
attribute [local instance] Kg
def Ac (x:AC × AC × AW × List AD):Option (Bool) :=
 Ac.l0 (x.2.2.1.Edges,(x.2.2.1.Edges.length:Int),0,x.1,x.2.1,x.2.2.1,x.2.2.2)>>=fun (o9:Lp (Unit) (Bool))=>match o9 with
 | .brk s12 =>
  some true
 | .ret r11 =>
  some r11
instance Ac.w:AH Ac (fun x r=>FnB Tryz.prog 93 [(3000000,[.v (.w x.1)]),(3000001,[.v (.w x.2.1)]),(3000002,[.v (.i64 x.2.2.1.Kind),.v (.slice .foreign (x.2.2.1.Edges.map AV.i64)),.own 65002002 14 (x.2.2.1.Preds.map AB.av)]),(3000003,[.v (.slice .foreign (x.2.2.2.map AD.av))])] [.fn 96 [] [.p 3000000,.p 3000001],.p 3000002,.p 3000003] (.bool r) [(3000000,[.v (.w x.1)]),(3000001,[.v (.w x.2.1)]),(3000002,[.v (.i64 x.2.2.1.Kind),.v (.slice .foreign (x.2.2.1.Edges.map AV.i64)),.own 65002002 14 (x.2.2.1.Preds.map AB.av)]),(3000003,[.v (.slice .foreign (x.2.2.2.map AD.av))])]):=⟨by
 intro x r h
 rw[Ac] at h
 try dsimp only
 refine FnB.of_lc mix Xy ADj (by rfl) (by rfl) fun c=>?_
 simp -implicitDefEqProofs only[go_sem,Tryz.f93]
 obtain⟨o9,h10,h⟩:=AE h
 refine AJ.viewQ (AJ.view [(86002002,some 65002002)] AL (Ac.l0.w.w (x.2.2.1.Edges,(x.2.2.1.Edges.length:Int),0,x.1,x.2.1,x.2.2.1,x.2.2.2) _ h10 _ _ _ ?_ ?_))
 ·intro s12 hs';subst hs'
  try simp -implicitDefEqProofs only[go_sem]
  injection h with h;subst h
  first | exact⟨AL,[(65002002,some 86002002)],by rfl,AL⟩ | exact⟨AL,[(65002002,some 86002002)],by rfl⟩ | exact⟨AL,[(65002002,some 86002002)],by(simp -implicitDefEqProofs only[go_sem] <;> first | done | rfl | trivial)⟩ | exact⟨[(65002002,some 86002002)],by rfl,AL⟩ | exact⟨[(65002002,some 86002002)],by rfl,by(simp -implicitDefEqProofs only[go_sem] <;> first | done | rfl | trivial)⟩
 ·intro r11 L' hs' hL';subst hs'
  injection h with h;subst h
  first | exact hL' | (simp -implicitDefEqProofs only[go_sem];exact hL') | (simp -implicitDefEqProofs only[go_sem];simp -implicitDefEqProofs only[go_sem] at hL';exact hL')⟩
end
section
attribute [local instance] Kg
def Ay (x:List AD × AC × AC):Option (AW × Bool) :=
 CL (x.1,x.2.1,x.2.2)>>=fun r1 =>
 if((r1.length:Int) == 0)=true then
  some ((⟨0,[],[]⟩:AW),false)
 else
  if((x.2.1&&&x.2.2) != 0#64)=true then
   some ((⟨0,[],[]⟩:AW),false)
  else
   Ab (x.2.1,x.2.2,(⟨0,r1,[]⟩:AW),x.1)>>=fun r5 =>
   if r5=true then
    (r1[0]?)>>=fun (e8:Int) =>
    (AX x.1 e8)>>=fun (e10:AD) =>
    Ay.l0 (r1,(r1.length:Int),0,x.1,(⟨0,[],[]⟩:AW),(⟨e10.Kind,r1,[]⟩:AW))>>=fun (o28:AW) =>
    some (o28,true)
   else
    if((r1.length:Int) == 1)=true then
     Ac (x.2.1,x.2.2,(⟨0,r1,[]⟩:AW),x.1)>>=fun r31 =>
     if r31=true then
      (r1[0]?)>>=fun (e34:Int) =>
      (AX x.1 e34)>>=fun (e36:AD) =>
      Ay.l0 (r1,(r1.length:Int),0,x.1,(⟨0,[],[]⟩:AW),(⟨e36.Kind,r1,[]⟩:AW))>>=fun (o38:AW) =>
      some (o38,true)
     else
      some ((⟨0,[],[]⟩:AW),false)
    else
     some ((⟨0,[],[]⟩:AW),false)
instance Ay.w:AH Ay (fun x r=>Fn Tryz.prog 55 [.slice .foreign (x.1.map AD.av),.w x.2.1,.w x.2.2] (.tuple [.agg (AW.C r.1),.bool r.2])):=⟨by
 intro x r h
 rw[Ay] at h
 try dsimp only
 refine Fn.of_lc mix ACI ALO (by rfl) (flC (AQ _ AD.flat _) (flC (.atom _) (flC (.atom _) (flN)))) (.tuple _ (flC (AW.flatC _) (flC (.atom _) (flN)))) ?_
 simp -implicitDefEqProofs only[go_sem,Tryz.f55]
 obtain⟨r1,h2,h⟩:=AE h
 refine .plain _ _ rfl (CL.w.w (x.1,x.2.1,x.2.2) _ h2) ?_
 try simp -implicitDefEqProofs only[go_sem]
 revert h;refine itE (fun h3 h=>?_) fun h3 h=>?_
 ·try simp -implicitDefEqProofs only[go_sem, *, -h]
  injection h with h;subst h
  exact AL
 ·try simp -implicitDefEqProofs only[go_sem, *, -h]
  revert h;refine itE (fun h4 h=>?_) fun h4 h=>?_
  ·try simp -implicitDefEqProofs only[go_sem, *, -h]
   injection h with h;subst h
   exact AL
  ·try simp -implicitDefEqProofs only[go_sem, *, -h]
   obtain⟨r5,h6,h⟩:=AE h
   have hw:=Ab.w.w (x.2.1,x.2.2,(⟨0,r1,[]⟩:AW),x.1) _ h6
   refine .vars [(65002002,none)] [(3000000,4),(3000001,5),(3000002,8),(3000003,3)] _ _ _ _ hw AL (by rfl) (by rfl) (by rfl) (by rfl) AL AL AL ?_
   clear hw
   try simp -implicitDefEqProofs only[go_sem, *, -h]
   revert h;refine itE (fun h7 h=>?_) fun h7 h=>?_
   ·try simp -implicitDefEqProofs only[go_sem, *, -h]
    obtain⟨e8,h9,h⟩:=AE h
    try simp -implicitDefEqProofs only[go_sem, *, -h]
    obtain⟨e10,h11,h⟩:=AE h;replace h11:=Dw h11;obtain⟨h11',h11⟩:=h11
    try simp -implicitDefEqProofs only[go_sem, *, -h]
    obtain⟨o28,h29,h⟩:=AE h
    refine AJ.viewQ (AJ.view [(20000601,none),(70000602,none),(70000802,some 65002002)] AL (Ay.l0.w.w (r1,(r1.length:Int),0,x.1,(⟨0,[],[]⟩:AW),(⟨e10.Kind,r1,[]⟩:AW)) _ h29 _ _ _ ?_))
    intro s' hs';subst hs'
    try simp -implicitDefEqProofs only[go_sem, *, -h]
    injection h with h;subst h
    exact AL
   ·try simp -implicitDefEqProofs only[go_sem, *, -h]
    revert h;refine itE (fun h30 h=>?_) fun h30 h=>?_
    ·try simp -implicitDefEqProofs only[go_sem, *, -h]
     obtain⟨r31,h32,h⟩:=AE h
     have hw:=Ac.w.w (x.2.1,x.2.2,(⟨0,r1,[]⟩:AW),x.1) _ h32
     refine .vars [(65002002,some 65002002)] [(3000000,4),(3000001,5),(3000002,8),(3000003,3)] _ _ _ _ hw AL (by rfl) (by rfl) (by rfl) (by rfl) AL AL AL ?_
     clear hw
     try simp -implicitDefEqProofs only[go_sem, *, -h]
     revert h;refine itE (fun h33 h=>?_) fun h33 h=>?_
     ·try simp -implicitDefEqProofs only[go_sem, *, -h]
      obtain⟨e34,h35,h⟩:=AE h
      try simp -implicitDefEqProofs only[go_sem, *, -h]
      obtain⟨e36,h37,h⟩:=AE h;replace h37:=Dw h37;obtain⟨h37',h37⟩:=h37
      try simp -implicitDefEqProofs only[go_sem, *, -h]
      obtain⟨o38,h39,h⟩:=AE h
      refine AJ.viewQ (AJ.view [(20000601,none),(70000602,none),(70000802,some 65002002)] AL (Ay.l0.w.w (r1,(r1.length:Int),0,x.1,(⟨0,[],[]⟩:AW),(⟨e36.Kind,r1,[]⟩:AW)) _ h39 _ _ _ ?_))
      intro s' hs';subst hs'
      try simp -implicitDefEqProofs only[go_sem, *, -h]
      injection h with h;subst h
      exact AL
     ·try simp -implicitDefEqProofs only[go_sem, *, -h]
      injection h with h;subst h
      exact AL
    ·try simp -implicitDefEqProofs only[go_sem, *, -h]
     injection h with h;subst h
     exact AL⟩
end
end
section
theorem AJK:okF Tryz.f102=true:=by kernel_rfl
def CQ.l0 (x:List AD × AC × AC × List Int × Int):Option (List Int) :=
 if(decide (x.2.2.2.2<(x.1.length:Int)))=true then
  (AX x.1 x.2.2.2.2)>>=fun (e2:AD) =>
  CH (e2.Uses,(x.2.1|||x.2.2.1))>>=fun r4 =>
  if r4=true then
   CH (e2.Uses,x.2.1)>>=fun r7 =>
   if r7=true then
    CQ.l0 (x.1,x.2.1,x.2.2.1,x.2.2.2.1,(w64 (x.2.2.2.2+1)))
   else
    CH (e2.Uses,x.2.2.1)>>=fun r10 =>
    if r10=true then
     CQ.l0 (x.1,x.2.1,x.2.2.1,x.2.2.2.1,(w64 (x.2.2.2.2+1)))
    else
     (room 8 x.2.2.2.1 ([x.2.2.2.2]))>>=fun (z13:List Int) =>
     CQ.l0 (x.1,x.2.1,x.2.2.1,z13,(w64 (x.2.2.2.2+1)))
  else
   CQ.l0 (x.1,x.2.1,x.2.2.1,x.2.2.2.1,(w64 (x.2.2.2.2+1)))
 else
  some x.2.2.2.1
 partial_fixpoint
theorem CQ.l0.ws:PC CQ.l0 (fun x o=>∀ lo c (Q:EP) (hb:∀ s:List Int,o=s→Q (.exit 0) ⟨[(7,.own 100700 1 (s.map AV.i64))],[]⟩),AJ Tryz.prog 102 lo c 0 (VQ Q) ⟨[(0,.v (.slice .foreign (x.1.map AD.av))),(1,.v (.w x.2.1)),(2,.v (.w x.2.2.1)),(7,.own 100700 1 (x.2.2.2.1.map AV.i64)),(8,.v (.i64 x.2.2.2.2))],[]⟩):=by
 refine CQ.l0.partial_correctness _ ?_
 ·intro Tf Rf x o h
  have AG0:AH Tf _:=⟨Rf⟩
  intro lo c Q hb
  refine AJ.step mix AD1 (by kernel_rfl) ?_
  simp -implicitDefEqProofs only[go_sem,Tryz.f102]
  exact AN
instance CQ.l0.w:type_of% (AH.mk CQ.l0.ws):=⟨CQ.l0.ws⟩
def CQ (x:List AD × AC × AC):Option (List Int) :=
 CQ.l0 (x.1,x.2.1,x.2.2,([]:List Int),0)>>=fun (o15:List Int) =>
 some o15
instance CQ.w:AH CQ (fun x r=>Fn Tryz.prog 102 [.slice .foreign (x.1.map AD.av),.w x.2.1,.w x.2.2] (.slice .foreign (r.map AV.i64))):=⟨by
 intro x r h
 rw[CQ] at h
 try dsimp only
 refine Fn.of_lc mix AD1 AJK (by rfl) (flC (AQ _ AD.flat _) (flC (.atom _) (flC (.atom _) (flN)))) (AQ _ (fun _=>.atom _) _) ?_
 simp -implicitDefEqProofs only[go_sem,Tryz.f102]
 exact AN⟩
end
section
theorem AIO:okF Tryz.f103=true:=by kernel_rfl
def Ff (x:AD × AC × AC):Option (Bool) :=
 CH (x.1.Left,x.2.1)>>=fun r1 =>
 if r1=true then
  CH (x.1.Right,x.2.2)>>=fun r4 =>
  some r4
 else
  some false
instance Ff.w:AH Ff (fun x r=>Fn Tryz.prog 103 [.agg (AD.C x.1),.w x.2.1,.w x.2.2] (.bool r)):=⟨by
 intro x r h
 rw[Ff] at h
 try dsimp only
 refine Fn.of_lc mix ALE AIO (by rfl) (flC (AD.flatC _) (flC (.atom _) (flC (.atom _) (flN)))) (.atom _) ?_
 simp -implicitDefEqProofs only[go_sem,Tryz.f103]
 exact AN⟩
end
section
theorem AK3:okF Tryz.f63=true:=by kernel_rfl
def CC.l0 (x:List AD × AC × AC × List Int × Int × Ai × Ai):Option (Lp (Ai × Ai) (Ai × Bool)) :=
 if(decide (x.2.2.2.2.1<(x.2.2.2.1.length:Int)))=true then
  (AX x.2.2.2.1 x.2.2.2.2.1)>>=fun (e10:Int) =>
  (AX x.1 e10)>>=fun (e12:AD) =>
  if(e12.Kind != 1)=true then
   if(decide ((x.2.2.2.1.length:Int) > 1))=true then
    some (.ret ((⟨0,[],[]⟩:Ai),false))
   else
    if(decide (e12.Kind<2))=true then
     some (.ret ((⟨0,[],[]⟩:Ai),false))
    else
     if(decide (e12.Kind > 4))=true then
      some (.ret ((⟨0,[],[]⟩:Ai),false))
     else
      Ff (e12,x.2.1,x.2.2.1)>>=fun r18 =>
      if r18=true then
       (room 128 x.2.2.2.2.2.2.Preds e12.Preds)>>=fun (z22:List AB) =>
       CC.l0 (x.1,x.2.1,x.2.2.1,x.2.2.2.1,(w64 (x.2.2.2.2.1+1)),x.2.2.2.2.2.1,(⟨x.2.2.2.2.2.2.Kind,x.2.2.2.2.2.2.Edges,z22⟩:Ai))
      else
       some (.ret ((⟨0,[],[]⟩:Ai),false))
  else
   Ff (e12,x.2.1,x.2.2.1)>>=fun r25 =>
   if r25=true then
    (room 128 x.2.2.2.2.2.2.Preds e12.Preds)>>=fun (z28:List AB) =>
    CC.l0 (x.1,x.2.1,x.2.2.1,x.2.2.2.1,(w64 (x.2.2.2.2.1+1)),x.2.2.2.2.2.1,(⟨x.2.2.2.2.2.2.Kind,x.2.2.2.2.2.2.Edges,z28⟩:Ai))
   else
    Ff (e12,x.2.2.1,x.2.1)>>=fun r30 =>
    if r30=true then
     (room 128 x.2.2.2.2.2.2.Preds e12.Preds)>>=fun (z33:List AB) =>
     CC.l0 (x.1,x.2.1,x.2.2.1,x.2.2.2.1,(w64 (x.2.2.2.2.1+1)),x.2.2.2.2.2.1,(⟨x.2.2.2.2.2.2.Kind,x.2.2.2.2.2.2.Edges,z33⟩:Ai))
    else
     some (.ret ((⟨0,[],[]⟩:Ai),false))
 else
  some (.brk (x.2.2.2.2.2.1,x.2.2.2.2.2.2))
 partial_fixpoint
theorem CC.l0.ws:PC CC.l0 (fun x o=>∀ lo c (Q:EP) (hb:∀ s:Ai × Ai,o=Lp.brk s→Q (.exit 0) ⟨[(6,.lref 6 0),(9,.lref 9 0)],[(6,[.v (.i64 s.1.Kind),.own 20000601 1 (s.1.Edges.map AV.i64),.own 20000602 14 (s.1.Preds.map AB.av)]),(9,[.v (.i64 s.2.Kind),.v (.slice .foreign (s.2.Edges.map AV.i64)),.own 20000902 14 (s.2.Preds.map AB.av)])]⟩) (hr:∀ (r:Ai × Bool) (L:AM),o=.ret r→DO Tryz.prog [.cell 6 72,.tmp 7] (.tuple [.agg (Ai.C r.1),.bool r.2]) (fun _=>True) .ret L→Q .ret L),AJ Tryz.prog 63 lo c 0 (VQ Q) ⟨[(0,.v (.slice .foreign (x.1.map AD.av))),(1,.v (.w x.2.1)),(2,.v (.w x.2.2.1)),(6,.lref 6 0),(8,.v (.slice .foreign (x.2.2.2.1.map AV.i64))),(9,.lref 9 0),(10,.v (.i64 x.2.2.2.2.1))],[(6,[.v (.i64 x.2.2.2.2.2.1.Kind),.own 20000601 1 (x.2.2.2.2.2.1.Edges.map AV.i64),.own 20000602 14 (x.2.2.2.2.2.1.Preds.map AB.av)]),(9,[.v (.i64 x.2.2.2.2.2.2.Kind),.v (.slice .foreign (x.2.2.2.2.2.2.Edges.map AV.i64)),.own 20000902 14 (x.2.2.2.2.2.2.Preds.map AB.av)])]⟩):=by
 refine CC.l0.partial_correctness _ ?_
 ·intro Rp QP x o h
  have AFZ:AH Rp _:=⟨QP⟩
  intro lo c Q hb hr
  refine AJ.step mix AHG (by kernel_rfl) ?_
  simp -implicitDefEqProofs only[go_sem,Tryz.f63]
  exact AN
instance CC.l0.w:type_of% (AH.mk CC.l0.ws):=⟨CC.l0.ws⟩
def CC (x:List AD × AC × AC):Option (Ai × Bool) :=
 CQ (x.1,x.2.1,x.2.2)>>=fun r1 =>
 if((r1.length:Int) == 0)=true then
  some ((⟨0,[],[]⟩:Ai),false)
 else
  if((x.2.1&&&x.2.2) != 0#64)=true then
   some ((⟨0,[],[]⟩:Ai),false)
  else
   (r1[0]?)>>=fun (e5:Int) =>
   (AX x.1 e5)>>=fun (e7:AD) =>
   CC.l0 (x.1,x.2.1,x.2.2,r1,0,(⟨0,[],[]⟩:Ai),(⟨e7.Kind,r1,[]⟩:Ai))>>=fun (o35:Lp (Ai × Ai) (Ai × Bool))=>match o35 with
   | .brk s38 =>
    some (s38.2,true)
   | .ret r37 =>
    some r37
instance CC.w:AH CC (fun x r=>Fn Tryz.prog 63 [.slice .foreign (x.1.map AD.av),.w x.2.1,.w x.2.2] (.tuple [.agg (Ai.C r.1),.bool r.2])):=⟨by
 intro x r h
 rw[CC] at h
 try dsimp only
 refine Fn.of_lc mix AHG AK3 (by rfl) (flC (AQ _ AD.flat _) (flC (.atom _) (flC (.atom _) (flN)))) (.tuple _ (flC (Ai.flatC _) (flC (.atom _) (flN)))) ?_
 simp -implicitDefEqProofs only[go_sem,Tryz.f63]
 exact AN⟩
end
section
theorem Tu (a b:AC):Df (a,b)=some (inS a b):=by unfold Df;rfl
def ABg (a b:AC) (e:AD):Bool:=inS e.Uses (a|||b)&&(!inS e.Uses a&&!inS e.Uses b)
def ED (a b:AC):Nat→List AD→List Int
 | _,[]=>[]
 | k,e :: l=>if ABg a b e=true then(k:Int) :: ED a b (k+1) l else ED a b (k+1) l
def Bs (es:List AD) (a b:AC):List Int:=ED a b 0 es
theorem Sd (a b:AC):∀ (l:List AD) (k:Nat),(ED a b k l).length≤l.length:=by
 intro l
 induction l with
 | nil=>intro k;exact Nat.le_refl _
 | cons e l ih =>
  intro k
  rw[ED]
  have:=ih (k+1)
  split <;> simp only[List.length_cons] <;> omega
theorem AAI (a b:AC) (es:List AD):∀ (post pre:List AD),pre++post=es→∀ i∈ED a b pre.length post,∃ e,AX es i=some e∧e∈post:=by
 intro post
 induction post with
 | nil=>intro pre _ i hi;cases hi
 | cons e l ih =>
  intro pre he i hi
  have hrec:i∈ED a b (pre.length+1) l→∃ e',AX es i=some e'∧e'∈e :: l:=fun h=>by
   obtain⟨e',h1,h2⟩:=ih (pre++[e]) (by rw[List.append_assoc];exact he) i (by rw[CF];exact h)
   exact⟨e',h1,List.mem_cons_of_mem _ h2⟩
  rw[ED] at hi
  split at hi
  ·rcases List.mem_cons.1 hi with rfl | hi
   ·exact⟨e,by rw[← he,Ef],List.mem_cons_self⟩
   ·exact hrec hi
  ·exact hrec hi
theorem Zu (a b:AC):∀ (post pre:List AD) (acc:List Int),acc.length≤pre.length→pre.length+post.length≤1000000→CL.l0 (a,b,acc,pre++post,((pre++post).length:Int),(pre.length:Int))=some (acc++ED a b pre.length post):=by
 intro post
 induction post with
 | nil=>intro pre acc _ _;rw[List.append_nil,CL.l0,if_neg (dge (by dsimp only;omega)),ED,List.append_nil]
 | cons e l ih =>
  intro pre acc h1 h2
  simp only[List.length_cons] at h2
  have hlen:(pre++e :: l).length=pre.length+(l.length+1):=by rw[List.length_append];rfl
  have hst:∀ acc':List Int,acc'.length≤pre.length+1→CL.l0 (a,b,acc',pre++e :: l,((pre++e :: l).length:Int),((pre.length+1:Nat):Int))=some (acc'++ED a b (pre.length+1) l):=fun acc' h=>by
   have:=ih (pre++[e]) acc' (by rw[CF];exact h) (by rw[CF];omega)
   rw[List.append_assoc,CF] at this
   exact this
  rw[CL.l0,if_pos (dlt (by dsimp only;omega))]
  dsimp only
  rw[Ef,AU (by omega),ED]
  simp -implicitDefEqProofs only[Option.bind_eq_bind,Option.bind_some,Tu]
  unfold ABg
  cases c1:inS e.Uses (a|||b)
  ·simp only[Bool.false_eq_true,if_false,Bool.false_and]
   exact hst acc (by omega)
  ·cases c2:inS e.Uses a
   ·cases c3:inS e.Uses b
    ·simp only[Bool.false_eq_true,if_false,if_true,Bool.not_false,Bool.and_self]
     rw[Bp (by simp only[List.length_cons,List.length_nil];omega)]
     simp -implicitDefEqProofs only[Option.bind_some]
     rw[hst _ (by rw[CF];omega),List.append_assoc];rfl
    ·simp only[Bool.false_eq_true,if_false,if_true,Bool.not_false,Bool.not_true,Bool.and_false]
     exact hst acc (by omega)
   ·simp only[Bool.false_eq_true,if_false,if_true,Bool.not_true,Bool.false_and,Bool.and_false]
    exact hst acc (by omega)
theorem AAA (es:List AD) (a b:AC) (hl:es.length≤1000000):CL (es,a,b)=some (Bs es a b):=by
 have:=Zu a b es [] [] (Nat.le_refl _) (by simpa using hl)
 simp only[List.nil_append,List.length_nil] at this
 unfold CL
 dsimp only
 rw[show ((0:Nat):Int)=0 from rfl] at this
 rw[this];rfl
theorem Yy (a b:AC):∀ (post pre:List AD) (acc:List Int),acc.length≤pre.length→pre.length+post.length≤1000000→CQ.l0 (pre++post,a,b,acc,(pre.length:Int))=some (acc++ED a b pre.length post):=by
 intro post
 induction post with
 | nil=>intro pre acc _ _;rw[List.append_nil,CQ.l0,if_neg (dge (by dsimp only;omega)),ED,List.append_nil]
 | cons e l ih =>
  intro pre acc h1 h2
  simp only[List.length_cons] at h2
  have hlen:(pre++e :: l).length=pre.length+(l.length+1):=by rw[List.length_append];rfl
  have hst:∀ acc':List Int,acc'.length≤pre.length+1→CQ.l0 (pre++e :: l,a,b,acc',((pre.length+1:Nat):Int))=some (acc'++ED a b (pre.length+1) l):=fun acc' h=>by
   have:=ih (pre++[e]) acc' (by rw[CF];exact h) (by rw[CF];omega)
   rw[List.append_assoc,CF] at this
   exact this
  rw[CQ.l0,if_pos (dlt (by dsimp only;omega))]
  dsimp only
  rw[Ef,AU (by omega),ED]
  simp -implicitDefEqProofs only[Option.bind_eq_bind,Option.bind_some,JI]
  unfold ABg
  cases c1:inS e.Uses (a|||b)
  ·simp only[Bool.false_eq_true,if_false,Bool.false_and]
   exact hst acc (by omega)
  ·cases c2:inS e.Uses a
   ·cases c3:inS e.Uses b
    ·simp only[Bool.false_eq_true,if_false,if_true,Bool.not_false,Bool.and_self]
     rw[Bp (by simp only[List.length_cons,List.length_nil];omega)]
     simp -implicitDefEqProofs only[Option.bind_some]
     rw[hst _ (by rw[CF];omega),List.append_assoc];rfl
    ·simp only[Bool.false_eq_true,if_false,if_true,Bool.not_false,Bool.not_true,Bool.and_false]
     exact hst acc (by omega)
   ·simp only[Bool.false_eq_true,if_false,if_true,Bool.not_true,Bool.false_and,Bool.and_false]
    exact hst acc (by omega)
theorem YV (es:List AD) (a b:AC) (hl:es.length≤1000000):CQ (es,a,b)=some (Bs es a b):=by
 have:=Yy a b es [] [] (Nat.le_refl _) (by simpa using hl)
 simp only[List.nil_append,List.length_nil] at this
 unfold CQ
 dsimp only
 rw[show ((0:Nat):Int)=0 from rfl] at this
 rw[this];rfl
def BC (es:List AD) (i:Int):AD:=match AX es i with
 | some e=>e
 | none=>⟨0,[],0#64,0#64,0#64⟩
theorem OW {es:List AD} {a b:AC}:∀ i∈Bs es a b,AX es i=some (BC es i)∧BC es i∈es:=by
 intro i hi
 obtain⟨e,h1,h2⟩:=AAI a b es es [] rfl i hi
 have:BC es i=e:=by unfold BC;rw[h1]
 rw[this];exact⟨h1,h2⟩
def JS (a b:AC) (e:AD):Bool:=inS e.Left a&&inS e.Right b
def Na (a b:AC) (e:AD):Bool:=inS e.Right a&&inS e.Left b
def Ek (a b:AC) (e:AD):Bool:=e.Kind == 1&&(JS a b e || Na a b e)
def Fe (a b:AC) (e:AD):Bool:=decide (e.Kind > 1)&&(decide (e.Kind≤4)&&(!(e.Kind == 1)&&JS a b e))
theorem Ys (e:AD) (a b:AC):Ed (e,a,b)=some ⟨e.Kind == 1,JS a b e,Na a b e⟩:=by
 unfold Ed JS Na
 simp -implicitDefEqProofs only[Option.bind_eq_bind,Option.bind_some,Tu]
 cases inS e.Left a <;> cases inS e.Right a <;> rfl
theorem AGE (e:AD) (a b:AC):FP (e,a,b)=some (Ek a b e):=by
 unfold FP Ek
 simp -implicitDefEqProofs only[Option.bind_eq_bind,Option.bind_some,Ys]
 cases e.Kind == 1 <;> cases JS a b e <;> rfl
theorem AGT (e:AD) (a b:AC):FV (e,a,b)=some (Fe a b e):=by
 unfold FV Fe
 simp -implicitDefEqProofs only[Option.bind_eq_bind,Option.bind_some,Ys]
 cases decide (e.Kind > 1) <;> cases decide (e.Kind≤4) <;> cases e.Kind == 1 <;> cases JS a b e <;> rfl
section
variable {es:List AD} {a b:AC} {is:List Int}
theorem AI2 (cut:AW) (hg:∀ i∈is,AX es i=some (BC es i)) (hl:is.length≤1000000):∀ (post pre:List Int),pre++post=is→Ab.l0 (is,(is.length:Int),(pre.length:Int),a,b,cut,es)=some (if post.all (fun i=>Ek a b (BC es i))=true then .brk () else .ret false):=by
 intro post
 induction post with
 | nil=>intro pre he;rw[List.append_nil] at he;subst he;rw[Ab.l0,if_neg (dge (by dsimp only;omega))];rfl
 | cons i l ih =>
  intro pre he
  have hlen:pre.length+(l.length+1)=is.length:=by rw[← he,List.length_append];rfl
  have h1:=ih (pre++[i]) (by rw[List.append_assoc];exact he)
  rw[CF] at h1
  rw[Ab.l0,if_pos (dlt (by dsimp only;omega))]
  dsimp only
  have hgi:AX is (pre.length:Int)=some i:=by rw[← he,Ef]
  rw[hgi]
  simp -implicitDefEqProofs only[Option.bind_eq_bind,Option.bind_some]
  rw[hg i (by rw[← he];simp)]
  simp -implicitDefEqProofs only[Option.bind_some,AGE]
  rw[List.all_cons]
  cases Ek a b (BC es i)
  ·rfl
  ·rw[if_pos rfl,AU (by omega),h1,Bool.true_and]
theorem AIa (cut:AW) (hg:∀ i∈is,AX es i=some (BC es i)) (hl:is.length≤1000000):∀ (post pre:List Int),pre++post=is→Ac.l0 (is,(is.length:Int),(pre.length:Int),a,b,cut,es)=some (if post.all (fun i=>Fe a b (BC es i))=true then .brk () else .ret false):=by
 intro post
 induction post with
 | nil=>intro pre he;rw[List.append_nil] at he;subst he;rw[Ac.l0,if_neg (dge (by dsimp only;omega))];rfl
 | cons i l ih =>
  intro pre he
  have hlen:pre.length+(l.length+1)=is.length:=by rw[← he,List.length_append];rfl
  have h1:=ih (pre++[i]) (by rw[List.append_assoc];exact he)
  rw[CF] at h1
  rw[Ac.l0,if_pos (dlt (by dsimp only;omega))]
  dsimp only
  have hgi:AX is (pre.length:Int)=some i:=by rw[← he,Ef]
  rw[hgi]
  simp -implicitDefEqProofs only[Option.bind_eq_bind,Option.bind_some]
  rw[hg i (by rw[← he];simp)]
  simp -implicitDefEqProofs only[Option.bind_some,AGT]
  rw[List.all_cons]
  cases Fe a b (BC es i)
  ·rfl
  ·rw[if_pos rfl,AU (by omega),h1,Bool.true_and]
theorem AJD (cut:AW) (hi:cut.Edges=is) (hg:∀ i∈is,AX es i=some (BC es i)) (hl:is.length≤1000000):Ab (a,b,cut,es)=some (is.all fun i=>Ek a b (BC es i)):=by
 have h:=AI2 (a:=a) (b:=b) cut hg hl is [] rfl
 rw[List.length_nil,show ((0:Nat):Int)=0 from rfl] at h
 unfold Ab
 dsimp only
 rw[hi,h]
 cases is.all fun i=>Ek a b (BC es i) <;> rfl
theorem AIC (cut:AW) (hi:cut.Edges=is) (hg:∀ i∈is,AX es i=some (BC es i)) (hl:is.length≤1000000):Ac (a,b,cut,es)=some (is.all fun i=>Fe a b (BC es i)):=by
 have h:=AIa (a:=a) (b:=b) cut hg hl is [] rfl
 rw[List.length_nil,show ((0:Nat):Int)=0 from rfl] at h
 unfold Ac
 dsimp only
 rw[hi,h]
 cases is.all fun i=>Fe a b (BC es i) <;> rfl
theorem AIG (r:List Int) (n k:Int) (c0:AW) (ps:List AB) (hs:∀ p∈ps,p.size≤1000000) (hp:ps.length≤1000000):∀ (post pre:List AB) (cut:AW),pre++post=ps→cut.Preds.length+post.length≤1000000000000 →
  Ay.l1 (r,n,k,ps,(ps.length:Int),(pre.length:Int),es,c0,cut)=some ⟨cut.Kind,cut.Edges,cut.Preds++post⟩:=by
 intro post
 induction post with
 | nil=>intro pre cut he _;rw[List.append_nil] at he;subst he;rw[Ay.l1,if_neg (dge (by dsimp only;omega)),List.append_nil]
 | cons p l ih =>
  intro pre cut he hb
  have hlen:pre.length+(l.length+1)=ps.length:=by rw[← he,List.length_append];rfl
  rw[Ay.l1,if_pos (dlt (by dsimp only;omega))]
  dsimp only
  have hgi:AX ps (pre.length:Int)=some p:=by rw[← he,Ef]
  rw[hgi]
  simp -implicitDefEqProofs only[Option.bind_eq_bind,Option.bind_some]
  rw[ME p (hs p (by rw[← he];simp))]
  simp -implicitDefEqProofs only[Option.bind_some]
  rw[List.length_cons] at hb
  rw[Bp (by simp only[List.length_cons,List.length_nil];omega)]
  simp -implicitDefEqProofs only[Option.bind_some]
  rw[Ef]
  simp -implicitDefEqProofs only[Option.bind_some]
  have hset:∀ z:AB,(cut.Preds++[z]).set ((cut.Preds.length:Int)).toNat p=cut.Preds++[p]:=fun z=>by
   rw[Int.toNat_natCast];exact AI8 cut.Preds z p []
  rw[hset,AU (by omega)]
  have:=ih (pre++[p]) ⟨cut.Kind,cut.Edges,cut.Preds++[p]⟩ (by rw[List.append_assoc];exact he) (by rw[CF];omega)
  rw[CF,List.append_assoc] at this
  exact this
def DJ (es:List AD) (is:List Int):List AB:=is.flatMap fun i=>(BC es i).Preds
theorem AIR (c0:AW) (hg:∀ i∈is,AX es i=some (BC es i)) (hE:∀ i∈is,(BC es i).Preds.length≤1000000∧∀ p∈(BC es i).Preds,p.size≤1000000) (hl:is.length≤101000):∀ (post pre:List Int) (cut:AW),pre++post=is→cut.Preds.length≤pre.length * 1000000 →
  Ay.l0 (is,(is.length:Int),(pre.length:Int),es,c0,cut)=some ⟨cut.Kind,cut.Edges,cut.Preds++DJ es post⟩:=by
 intro post
 induction post with
 | nil=>intro pre cut he _;rw[List.append_nil] at he;subst he;rw[Ay.l0,if_neg (dge (by dsimp only;omega))];simp[DJ]
 | cons i l ih =>
  intro pre cut he hb
  have hlen:pre.length+(l.length+1)=is.length:=by rw[← he,List.length_append];rfl
  have hi:i∈is:=by rw[← he];simp
  obtain⟨h1,h2⟩:=hE i hi
  rw[Ay.l0,if_pos (dlt (by dsimp only;omega))]
  dsimp only
  have hgi:AX is (pre.length:Int)=some i:=by rw[← he,Ef]
  rw[hgi]
  simp -implicitDefEqProofs only[Option.bind_eq_bind,Option.bind_some]
  rw[hg i hi]
  simp -implicitDefEqProofs only[Option.bind_some]
  have hc:=AIG (es:=es) is (is.length:Int) (pre.length:Int) c0 (BC es i).Preds h2 h1 (BC es i).Preds [] cut rfl (by omega)
  rw[List.length_nil,show ((0:Nat):Int)=0 from rfl] at hc
  rw[hc]
  simp -implicitDefEqProofs only[Option.bind_some]
  rw[AU (by omega)]
  have:=ih (pre++[i]) ⟨cut.Kind,cut.Edges,cut.Preds++(BC es i).Preds⟩ (by rw[List.append_assoc];exact he) (by rw[CF,List.length_append];omega)
  rw[CF,List.append_assoc] at this
  exact this
end
def DD (es:List AD) (a b:AC):Bool :=
 decide (Bs es a b≠[])&&(a&&&b == 0#64)&&((Bs es a b).all (fun i=>Ek a b (BC es i)) || (decide ((Bs es a b).length=1)&&(Bs es a b).all fun i=>Fe a b (BC es i)))
def NE (es:List AD) (is:List Int):Int:=match is with
 | i :: _=>(BC es i).Kind
 | []=>0
def NG (es:List AD) (a b:AC):AW:=⟨NE es (Bs es a b),Bs es a b,DJ es (Bs es a b)⟩
structure Gp (es:List AD):Prop where
 len:es.length≤101000
 ps:∀ e∈es,e.Preds.length≤1000000∧∀ p∈e.Preds,p.size≤1000000
theorem XK {es:List AD} (w:Gp es) (a b:AC):Ay (es,a,b)=some (if DD es a b=true then(NG es a b,true) else(⟨0,[],[]⟩,false)):=by
 have hn:=Sd a b es 0
 have wl:=w.len
 have hl:(Bs es a b).length≤101000:=by unfold Bs;omega
 have hg:∀ i∈Bs es a b,AX es i=some (BC es i):=fun i hi=>(OW i hi).1
 have hE:∀ i∈Bs es a b,(BC es i).Preds.length≤1000000∧∀ p∈(BC es i).Preds,p.size≤1000000:=fun i hi=>w.ps _ (OW i hi).2
 unfold Ay DD
 dsimp only
 rw[AAA es a b (by omega)]
 simp -implicitDefEqProofs only[Option.bind_eq_bind,Option.bind_some]
 cases hs:Bs es a b with
 | nil=>rw[if_pos (by simp)];simp
 | cons i l =>
  rw[if_neg (by simp;omega)]
  by_cases hab:a&&&b=0#64
  ·rw[if_neg (by simp[hab])]
   rw[← hs]
   rw[AJD (is:=Bs es a b) ⟨0,Bs es a b,[]⟩ rfl hg (by omega)]
   simp -implicitDefEqProofs only[Option.bind_some]
   have hfin:(((Bs es a b)[0]?).bind fun e8=>(AX es e8).bind fun e10=>(Ay.l0 (Bs es a b,((Bs es a b).length:Int),0,es,(⟨0,[],[]⟩:AW),(⟨e10.Kind,Bs es a b,[]⟩:AW))).bind fun o28=>some (o28,true))=some (NG es a b,true):=by
    have h0:(Bs es a b)[0]?=some i:=by rw[hs];rfl
    rw[h0]
    simp -implicitDefEqProofs only[Option.bind_some]
    rw[hg i (by rw[hs];exact List.mem_cons_self)]
    simp -implicitDefEqProofs only[Option.bind_some]
    have:=AIR (es:=es) (⟨0,[],[]⟩:AW) hg hE hl (Bs es a b) [] ⟨(BC es i).Kind,Bs es a b,[]⟩ rfl (Nat.zero_le _)
    rw[List.length_nil,show ((0:Nat):Int)=0 from rfl] at this
    rw[this]
    simp -implicitDefEqProofs only[Option.bind_some,List.nil_append]
    unfold NG NE
    rw[hs]
   have hne:decide (Bs es a b≠[])=true:=by rw[hs];simp
   have hab':(a&&&b == 0#64)=true:=by simp[hab]
   rw[hne,hab',Bool.true_and,Bool.true_and]
   cases hall:(Bs es a b).all fun i=>Ek a b (BC es i)
   ·simp only[Bool.false_eq_true,if_false,Bool.false_or]
    by_cases h1:(Bs es a b).length=1
    ·rw[if_pos (by simp[h1]),AIC (is:=Bs es a b) ⟨0,Bs es a b,[]⟩ rfl hg (by omega)]
     simp -implicitDefEqProofs only[Option.bind_some]
     rw[decide_eq_true h1,Bool.true_and]
     cases hall3:(Bs es a b).all fun i=>Fe a b (BC es i)
     ·rfl
     ·rw[if_pos rfl,if_pos rfl];exact hfin
    ·rw[if_neg (by simp;omega),decide_eq_false h1,Bool.false_and];rfl
   ·rw[if_pos rfl,Bool.true_or,if_pos rfl];exact hfin
  ·rw[if_pos (by simpa using hab)]
   have:(a&&&b == 0#64)=false:=by simpa using hab
   rw[this,Bool.and_false,Bool.false_and];rfl
def IZ (a b:AC) (one:Bool) (e:AD):Bool:=Ek a b e || (one&&Fe a b e)
theorem AHl (e:AD) (a b:AC):Ff (e,a,b)=some (JS a b e):=by
 unfold Ff JS
 simp -implicitDefEqProofs only[Option.bind_eq_bind,Option.bind_some,JI]
 cases inS e.Left a <;> rfl
theorem AEg (e:AD) (a b:AC):JS b a e=Na a b e:=by unfold JS Na;rw[Bool.and_comm]
theorem ACU {es:List AD} {a b:AC} {is:List Int} (c0:Ai) (hg:∀ i∈is,AX es i=some (BC es i)) (hE:∀ i∈is,(BC es i).Preds.length≤1000000∧∀ p∈(BC es i).Preds,p.size≤1000000) (hl:is.length≤101000):∀ (post pre:List Int) (cut:Ai),pre++post=is→cut.Preds.length≤pre.length * 1000000 →
  CC.l0 (es,a,b,is,(pre.length:Int),c0,cut)=some (if post.all (fun i=>IZ a b (decide (is.length≤1)) (BC es i))=true then .brk (c0,⟨cut.Kind,cut.Edges,cut.Preds++DJ es post⟩) else .ret (⟨0,[],[]⟩,false)):=by
 intro post
 induction post with
 | nil=>intro pre cut he _;rw[List.append_nil] at he;subst he;rw[CC.l0,if_neg (dge (by dsimp only;omega))];simp[DJ]
 | cons i l ih =>
  intro pre cut he hb
  have hlen:pre.length+(l.length+1)=is.length:=by rw[← he,List.length_append];rfl
  have hi:i∈is:=by rw[← he];simp
  obtain⟨h1,h2⟩:=hE i hi
  rw[CC.l0,if_pos (dlt (by dsimp only;omega))]
  dsimp only
  have hgi:AX is (pre.length:Int)=some i:=by rw[← he,Ef]
  rw[hgi]
  simp -implicitDefEqProofs only[Option.bind_eq_bind,Option.bind_some]
  rw[hg i hi]
  simp -implicitDefEqProofs only[Option.bind_some,AHl]
  rw[Bp (by omega),AU (by omega)]
  simp -implicitDefEqProofs only[Option.bind_some]
  have hnext:=ih (pre++[i]) ⟨cut.Kind,cut.Edges,cut.Preds++(BC es i).Preds⟩ (by rw[List.append_assoc];exact he) (by rw[CF,List.length_append];omega)
  rw[CF] at hnext
  have hp:DJ es (i :: l)=(BC es i).Preds++DJ es l:=rfl
  rw[List.all_cons,hp,← List.append_assoc]
  have hone:∀ {x:Prop} [Decidable x],IZ a b (decide (is.length≤1)) (BC es i)=true→CC.l0 (es,a,b,is,((pre.length+1:Nat):Int),c0,⟨cut.Kind,cut.Edges,cut.Preds++(BC es i).Preds⟩)=some (if(IZ a b (decide (is.length≤1)) (BC es i)&&l.all fun i=>IZ a b (decide (is.length≤1)) (BC es i))=true then .brk (c0,⟨cut.Kind,cut.Edges,cut.Preds++(BC es i).Preds++DJ es l⟩) else .ret (⟨0,[],[]⟩,false)):=fun {x} _ h=>by
   rw[h,Bool.true_and];exact hnext
  have hno:IZ a b (decide (is.length≤1)) (BC es i)=false→(some (.ret (⟨0,[],[]⟩,false)):Option (Lp (Ai × Ai) (Ai × Bool)))=some (if(IZ a b (decide (is.length≤1)) (BC es i)&&l.all fun i=>IZ a b (decide (is.length≤1)) (BC es i))=true then .brk (c0,⟨cut.Kind,cut.Edges,cut.Preds++(BC es i).Preds++DJ es l⟩) else .ret (⟨0,[],[]⟩,false)):=fun h=>by
   rw[h,Bool.false_and];rfl
  by_cases hk:(BC es i).Kind=1
  ·have hk':((BC es i).Kind == 1)=true:=by simpa using hk
   rw[if_neg (by simp[hk])]
   cases hf:JS a b (BC es i)
   ·rw[if_neg (by simp),AEg]
    cases ht:Na a b (BC es i)
    ·rw[if_neg (by simp)]
     exact hno (by unfold IZ Ek Fe;rw[hf,ht,hk'];simp)
    ·rw[if_pos rfl]
     exact hone (x:=True) (by unfold IZ Ek;rw[hf,ht,hk'];rfl)
   ·rw[if_pos rfl]
    exact hone (x:=True) (by unfold IZ Ek;rw[hf,hk'];rfl)
  ·have hk':((BC es i).Kind == 1)=false:=by simpa using hk
   rw[if_pos (by simpa using hk)]
   by_cases h3:is.length≤1
   ·rw[if_neg (by simp;omega)]
    by_cases h4:(BC es i).Kind<2
    ·rw[if_pos (by simpa using h4)]
     exact hno (by
            unfold IZ Ek Fe;rw[hk'];have:decide ((BC es i).Kind > 1)=false:=by simp;omega
            rw[this];simp)
    ·rw[if_neg (by simpa using h4)]
     by_cases h5:(BC es i).Kind > 4
     ·rw[if_pos (by simpa using h5)]
      exact hno (by
             unfold IZ Ek Fe;rw[hk'];have:decide ((BC es i).Kind≤4)=false:=by simp;omega
             rw[this];simp)
     ·rw[if_neg (by simpa using h5)]
      have g1:decide ((BC es i).Kind > 1)=true:=by simp;omega
      have g2:decide ((BC es i).Kind≤4)=true:=by simp;omega
      cases hf:JS a b (BC es i)
      ·rw[if_neg (by simp)]
       exact hno (by unfold IZ Ek Fe;rw[hf,hk'];simp)
      ·rw[if_pos rfl]
       exact hone (x:=True) (by unfold IZ Ek Fe;rw[hf,hk',g1,g2,decide_eq_true h3];rfl)
   ·rw[if_pos (by simp;omega)]
    exact hno (by unfold IZ Ek;rw[hk',decide_eq_false h3];rfl)
def Zm (es:List AD) (a b:AC):Ai:=⟨NE es (Bs es a b),Bs es a b,DJ es (Bs es a b)⟩
theorem PD {es:List AD} (w:Gp es) (a b:AC):CC (es,a,b)=some (if DD es a b=true then(Zm es a b,true) else(⟨0,[],[]⟩,false)):=by
 have hn:=Sd a b es 0
 have wl:=w.len
 have hl:(Bs es a b).length≤101000:=by unfold Bs;omega
 have hg:∀ i∈Bs es a b,AX es i=some (BC es i):=fun i hi=>(OW i hi).1
 have hE:∀ i∈Bs es a b,(BC es i).Preds.length≤1000000∧∀ p∈(BC es i).Preds,p.size≤1000000:=fun i hi=>w.ps _ (OW i hi).2
 unfold CC DD
 dsimp only
 rw[YV es a b (by omega)]
 simp -implicitDefEqProofs only[Option.bind_eq_bind,Option.bind_some]
 cases hs:Bs es a b with
 | nil=>rw[if_pos (by simp)];simp
 | cons i l =>
  rw[if_neg (by simp;omega)]
  by_cases hab:a&&&b=0#64
  ·rw[if_neg (by simp[hab])]
   rw[← hs]
   have h0:(Bs es a b)[0]?=some i:=by rw[hs];rfl
   rw[h0]
   simp -implicitDefEqProofs only[Option.bind_some]
   rw[hg i (by rw[hs];exact List.mem_cons_self)]
   simp -implicitDefEqProofs only[Option.bind_some]
   have h1:=ACU (a:=a) (b:=b) (⟨0,[],[]⟩:Ai) hg hE hl (Bs es a b) [] ⟨(BC es i).Kind,Bs es a b,[]⟩ rfl (Nat.zero_le _)
   rw[List.length_nil,show ((0:Nat):Int)=0 from rfl] at h1
   rw[h1]
   simp -implicitDefEqProofs only[Option.bind_some,List.nil_append]
   have hne:decide (Bs es a b≠[])=true:=by rw[hs];simp
   have hab':(a&&&b == 0#64)=true:=by simp[hab]
   rw[hne,hab',Bool.true_and,Bool.true_and]
   have hall:((Bs es a b).all fun i=>IZ a b (decide ((Bs es a b).length≤1)) (BC es i))=(((Bs es a b).all fun i=>Ek a b (BC es i)) || (decide ((Bs es a b).length=1)&&(Bs es a b).all fun i=>Fe a b (BC es i))):=by
    unfold IZ
    by_cases h1:(Bs es a b).length=1
    ·obtain⟨j,hj⟩:=List.length_eq_one_iff.1 h1
     rw[decide_eq_true h1,decide_eq_true (show (Bs es a b).length≤1 by omega),hj]
     simp
    ·have h2:¬ (Bs es a b).length≤1:=by rw[hs] at h1 ⊢;simp at h1 ⊢;omega
     rw[decide_eq_false h1,decide_eq_false h2]
     simp
   rw[hall]
   cases ((Bs es a b).all fun i=>Ek a b (BC es i)) || (decide ((Bs es a b).length=1)&&(Bs es a b).all fun i=>Fe a b (BC es i))
   ·rfl
   ·rw[if_pos rfl]
    unfold Zm NE
    rw[hs];rfl
  ·rw[if_pos (by simpa using hab)]
   have:(a&&&b == 0#64)=false:=by simpa using hab
   rw[this,Bool.and_false,Bool.false_and];rfl
end
section
theorem AKZ:okF Tryz.f80=true:=by kernel_rfl
def Ht (x:AC):Option (Int) :=
 BL x>>=fun r1 =>
 if((r1.length:Int) == 0)=true then
  some (-1)
 else
  (r1[0]?)>>=fun (e4:Int) =>
  some e4
instance Ht.w:AH Ht (fun x r=>Fn Tryz.prog 80 [.w x] (.i64 r)):=⟨by
 intro x r h
 rw[Ht] at h
 try dsimp only
 refine Fn.of_lc mix AM5 AKZ (by rfl) (flC (.atom _) (flN)) (.atom _) ?_
 simp -implicitDefEqProofs only[go_sem,Tryz.f80]
 exact AN⟩
end
section
theorem AJ2:okF Tryz.f40=true:=by kernel_rfl
def GN (x:Int):Option (AA) :=
 some (⟨0,x,[],[],false⟩:AA)
instance GN.w:AH GN (fun x r=>Fn Tryz.prog 40 [.i64 x] (.agg (AA.C r))):=⟨by
 intro x r h
 rw[GN] at h
 try dsimp only
 refine Fn.of_lc mix AMb AJ2 (by rfl) (flC (.atom _) (flN)) (AA.flatC _) ?_
 simp -implicitDefEqProofs only[go_sem,Tryz.f40]
 exact AN⟩
end
section
theorem AKw:okF Tryz.f75=true:=by kernel_rfl
def IW (x:Ai × AA × AA):Option (AA) :=
 some (⟨x.1.Kind,0,[x.2.1,x.2.2],x.1.Preds,false⟩:AA)
instance IW.w:AH IW (fun x r=>Fn Tryz.prog 75 [.agg (Ai.C x.1),.agg (AA.C x.2.1),.agg (AA.C x.2.2)] (.agg (AA.C r))):=⟨by
 intro x r h
 rw[IW] at h
 try dsimp only
 refine Fn.of_lc mix AMy AKw (by rfl) (flC (Ai.flatC _) (flC (AA.flatC _) (flC (AA.flatC _) (flN)))) (AA.flatC _) ?_
 simp -implicitDefEqProofs only[go_sem,Tryz.f75]
 exact AN⟩
end
section
@[go_sem] theorem APl:lrp Tryz.prog 35 8=(12,[]):=by kernel_rfl
@[go_sem] theorem ANy:lrp Tryz.prog 35 20=(12,[]):=by kernel_rfl
theorem AJh:okF Tryz.f35=true:=by kernel_rfl
def Ao.l2 (x:List AD × AC × List AA × List AC × Int × List AA × List AA × Int × Int × Ai):Option (List AA) :=
 if(decide (x.2.2.2.2.2.2.2.2.1<(x.2.2.2.2.2.2.1.length:Int)))=true then
  (AX x.2.2.2.2.2.1 x.2.2.2.2.2.2.2.1)>>=fun (e23:AA) =>
  (AX x.2.2.2.2.2.2.1 x.2.2.2.2.2.2.2.2.1)>>=fun (e25:AA) =>
  IW (x.2.2.2.2.2.2.2.2.2,e23,e25)>>=fun r27 =>
  (room 72 x.2.2.1 ([r27]))>>=fun (z29:List AA) =>
  Ao.l2 (x.1,x.2.1,z29,x.2.2.2.1,x.2.2.2.2.1,x.2.2.2.2.2.1,x.2.2.2.2.2.2.1,x.2.2.2.2.2.2.2.1,(w64 (x.2.2.2.2.2.2.2.2.1+1)),x.2.2.2.2.2.2.2.2.2)
 else
  some x.2.2.1
 partial_fixpoint
theorem Ao.l2.ws:PC Ao.l2 (fun x o=>∀ lo c (Q:EP) (hb:∀ s:List AA,o=s→Q (.exit 4) ⟨[(0,.v (.slice .foreign (x.1.map AD.av))),(1,.v (.w x.2.1)),(5,.own 100500 5 (s.map AA.av)),(6,.v (.slice .foreign (x.2.2.2.1.map AV.w))),(7,.v (.i64 x.2.2.2.2.1)),(10,.lref 10 0),(12,.v (.slice .foreign (x.2.2.2.2.2.1.map AA.av))),(13,.v (.slice .foreign (x.2.2.2.2.2.2.1.map AA.av))),(14,.v (.i64 x.2.2.2.2.2.2.2.1))],[(10,[.v (.i64 x.2.2.2.2.2.2.2.2.2.Kind),.v (.slice .foreign (x.2.2.2.2.2.2.2.2.2.Edges.map AV.i64)),.v (.slice .foreign (x.2.2.2.2.2.2.2.2.2.Preds.map AB.av))])]⟩),AJ Tryz.prog 35 lo c 2 (VQ Q) ⟨[(0,.v (.slice .foreign (x.1.map AD.av))),(1,.v (.w x.2.1)),(5,.own 100500 5 (x.2.2.1.map AA.av)),(6,.v (.slice .foreign (x.2.2.2.1.map AV.w))),(7,.v (.i64 x.2.2.2.2.1)),(10,.lref 10 0),(12,.v (.slice .foreign (x.2.2.2.2.2.1.map AA.av))),(13,.v (.slice .foreign (x.2.2.2.2.2.2.1.map AA.av))),(14,.v (.i64 x.2.2.2.2.2.2.2.1)),(15,.v (.i64 x.2.2.2.2.2.2.2.2.1))],[(10,[.v (.i64 x.2.2.2.2.2.2.2.2.2.Kind),.v (.slice .foreign (x.2.2.2.2.2.2.2.2.2.Edges.map AV.i64)),.v (.slice .foreign (x.2.2.2.2.2.2.2.2.2.Preds.map AB.av))])]⟩):=by
 refine Ao.l2.partial_correctness _ ?_
 ·intro Uy TL x o h
  have AG8:AH Uy _:=⟨TL⟩
  intro lo c Q hb
  refine AJ.step mix YA (by kernel_rfl) ?_
  simp -implicitDefEqProofs only[go_sem,Tryz.f35]
  exact AN
instance Ao.l2.w:type_of% (AH.mk Ao.l2.ws):=⟨Ao.l2.ws⟩
def Ao.l1 (x:List AD × AC × List AA × List AC × Int × List AA × List AA × Int × Ai):Option (List AA) :=
 if(decide (x.2.2.2.2.2.2.2.1<(x.2.2.2.2.2.1.length:Int)))=true then
  Ao.l2 (x.1,x.2.1,x.2.2.1,x.2.2.2.1,x.2.2.2.2.1,x.2.2.2.2.2.1,x.2.2.2.2.2.2.1,x.2.2.2.2.2.2.2.1,0,x.2.2.2.2.2.2.2.2)>>=fun (o31:List AA) =>
  Ao.l1 (x.1,x.2.1,o31,x.2.2.2.1,x.2.2.2.2.1,x.2.2.2.2.2.1,x.2.2.2.2.2.2.1,(w64 (x.2.2.2.2.2.2.2.1+1)),x.2.2.2.2.2.2.2.2)
 else
  some x.2.2.1
 partial_fixpoint
theorem Ao.l1.ws:PC Ao.l1 (fun x o=>∀ lo c (Q:EP) (hb:∀ s:List AA,o=s→Q (.exit 2) ⟨[(0,.v (.slice .foreign (x.1.map AD.av))),(1,.v (.w x.2.1)),(5,.own 100500 5 (s.map AA.av)),(6,.v (.slice .foreign (x.2.2.2.1.map AV.w))),(7,.v (.i64 x.2.2.2.2.1))],[]⟩),AJ Tryz.prog 35 lo c 1 (VQ Q) ⟨[(0,.v (.slice .foreign (x.1.map AD.av))),(1,.v (.w x.2.1)),(5,.own 100500 5 (x.2.2.1.map AA.av)),(6,.v (.slice .foreign (x.2.2.2.1.map AV.w))),(7,.v (.i64 x.2.2.2.2.1)),(10,.lref 10 0),(12,.v (.slice .foreign (x.2.2.2.2.2.1.map AA.av))),(13,.v (.slice .foreign (x.2.2.2.2.2.2.1.map AA.av))),(14,.v (.i64 x.2.2.2.2.2.2.2.1))],[(10,[.v (.i64 x.2.2.2.2.2.2.2.2.Kind),.v (.slice .foreign (x.2.2.2.2.2.2.2.2.Edges.map AV.i64)),.v (.slice .foreign (x.2.2.2.2.2.2.2.2.Preds.map AB.av))])]⟩):=by
 refine Ao.l1.partial_correctness _ ?_
 ·intro Ui TC x o h
  have AHV:AH Ui _:=⟨TC⟩
  intro lo c Q hb
  refine AJ.step mix YA (by kernel_rfl) ?_
  simp -implicitDefEqProofs only[go_sem,Tryz.f35]
  exact AN
instance Ao.l1.w:type_of% (AH.mk Ao.l1.ws):=⟨Ao.l1.ws⟩
mutual
def Ao.l0 (x:List AD × AC × List AA × List AC × Int):Option (List AA) :=
 if(decide ((w64 (x.2.2.2.2+1))<(x.2.2.2.1.length:Int)))=true then
  (AX x.2.2.2.1 x.2.2.2.2)>>=fun (e11:AC) =>
  CC (x.1,e11,(x.2.1&&&~~~e11))>>=fun r13 =>
  if r13.2=true then
   Ao (x.1,e11)>>=fun r16 =>
   if((r16.length:Int) == 0)=true then
    Ao.l0 (x.1,x.2.1,x.2.2.1,x.2.2.2.1,(w64 (x.2.2.2.2+1)))
   else
    Ao (x.1,(x.2.1&&&~~~e11))>>=fun r19 =>
    Ao.l1 (x.1,x.2.1,x.2.2.1,x.2.2.2.1,x.2.2.2.2,r16,r19,0,r13.1)>>=fun (o33:List AA) =>
    Ao.l0 (x.1,x.2.1,o33,x.2.2.2.1,(w64 (x.2.2.2.2+1)))
  else
   Ao.l0 (x.1,x.2.1,x.2.2.1,x.2.2.2.1,(w64 (x.2.2.2.2+1)))
 else
  some x.2.2.1
 partial_fixpoint
def Ao (x:List AD × AC):Option (List AA) :=
 Da x.2>>=fun r1 =>
 if(r1 == 1)=true then
  Ht x.2>>=fun r4 =>
  GN r4>>=fun r6 =>
  some ([r6])
 else
  BB x.2>>=fun r8 =>
  Ao.l0 (x.1,x.2,([]:List AA),r8,0)>>=fun (o35:List AA) =>
  some o35
 partial_fixpoint
end
theorem Ao.l0.ws:PC Ao.l0 (fun x o=>∀ lo c (Q:EP) (hb:∀ s:List AA,o=s→Q (.exit 0) ⟨[(5,.own 100500 5 (s.map AA.av))],[]⟩),AJ Tryz.prog 35 lo c 0 (VQ Q) ⟨[(0,.v (.slice .foreign (x.1.map AD.av))),(1,.v (.w x.2.1)),(5,.own 100500 5 (x.2.2.1.map AA.av)),(6,.v (.slice .foreign (x.2.2.2.1.map AV.w))),(7,.v (.i64 x.2.2.2.2))],[]⟩)∧PC Ao (fun x r=>Fn Tryz.prog 35 [.slice .foreign (x.1.map AD.av),.w x.2] (.slice .foreign (r.map AA.av))):=by
 refine Ao.l0.mutual_partial_correctness _ _ ?_ ?_
 ·intro KL Yv Jk Xt x o h
  have VA:AH KL _:=⟨Jk⟩
  have AKp:AH Yv _:=⟨Xt⟩
  intro lo c Q hb
  refine AJ.step mix YA (by kernel_rfl) ?_
  simp -implicitDefEqProofs only[go_sem,Tryz.f35]
  exact AN
 ·intro KL Jk x r h
  have VA:AH KL _:=⟨Jk⟩
  refine Fn.of_lc mix YA AJh (by rfl) (flC (AQ _ AD.flat _) (flC (.atom _) (flN))) (AQ _ AA.flat _) ?_
  simp -implicitDefEqProofs only[go_sem,Tryz.f35]
  exact AN
instance Ao.w:type_of% (AH.mk Ao.l0.ws.2):=⟨Ao.l0.ws.2⟩
end
section
def Al (s:AC):Nat:=(Bf s).length
theorem Yh {α:Type} (p q:α→Bool) (l:List α):(l.filter p).length=(l.filter fun x=>p x&&q x).length+(l.filter fun x=>p x&&!q x).length:=by
 induction l with
 | nil=>rfl
 | cons x l ih =>
  simp only[List.filter_cons]
  cases p x <;> cases q x <;> simp <;> omega
theorem VW (s:AC):Al s=((List.range 64).filter fun i=>s.getLsbD i).length:=by unfold Al Bf;rw[List.length_map]
theorem Ip {a s:AC} (h:inS a s=true):Al s=Al a+Al (s&&&~~~a):=by
 rw[VW,VW,VW,Yh (fun i=>s.getLsbD i) (fun i=>a.getLsbD i)]
 congr 2
 ·refine List.filter_congr fun i hi=>?_
  have h1:=(Jl a s).1 h i (List.mem_range.1 hi)
  cases h2:a.getLsbD i
  ·simp
  ·simp[h1 h2]
 ·refine List.filter_congr fun i hi=>?_
  have hi:=List.mem_range.1 hi
  rw[BitVec.getLsbD_and,BitVec.getLsbD_not];simp[hi]
theorem Ky {a:AC} (h:Al a=0):a=0#64:=by
 refine(HH a).2 fun n=>?_
 cases hn:AY a n with
 | false=>rfl
 | true =>
  have:=(IG a n).2 hn
  have h2:Bf a=[]:=List.length_eq_zero_iff.1 h
  rw[h2] at this;cases this
theorem ALn (a s:AC):inS (s&&&~~~a) s=true:=(DB _ _).2 fun n h=>by rw[Je,Bool.and_eq_true] at h;exact h.1
theorem ZO {a s:AC} (h:inS a s=true) (h0:s&&&~~~a=0#64):a=s:=by
 refine Jm fun n=>?_
 have h1:=(HH _).1 h0 n
 rw[Je] at h1
 have h2:=(DB a s).1 h n
 cases h3:AY a n <;> cases h4:AY s n <;> simp_all
theorem NP {a s:AC} (h:inS a s=true) (h0:a≠0#64) (h1:a≠s):1≤Al a∧1≤Al (s&&&~~~a)∧Al a+Al (s&&&~~~a)=Al s:=by
 refine⟨?_,?_,(Ip h).symm⟩
 ·rcases Nat.eq_zero_or_pos (Al a) with e | e
  ·exact absurd (Ky e) h0
  ·exact e
 ·rcases Nat.eq_zero_or_pos (Al (s&&&~~~a)) with e | e
  ·exact absurd (ZO h (Ky e)) h1
  ·exact e
def FI (i:Int):AA:=⟨0,i,[],[],false⟩
def DA (es:List AD) (a b:AC) (x y:AA):AA:=⟨NE es (Bs es a b),0,[x,y],DJ es (Bs es a b),false⟩
def Fr (s:AC):Int:=match Bf s with
 | i :: _=>i
 | []=>-1
def spF (es:List AD):Nat→AC→List AA
 | 0,_=>[]
 | n+1,s=>if Al s=1 then [FI (Fr s)] else(BS s).dropLast.flatMap fun a=>if DD es a (s&&&~~~a)=true then(spF es n a).flatMap fun x=>(spF es n (s&&&~~~a)).map fun y=>DA es a (s&&&~~~a) x y else []
def spL:Nat→Nat
 | 2=>4
 | 3=>32
 | 4=>512
 | 5=>16384
 | _=>1
theorem IY {s a:AC} (h:a∈(BS s).dropLast):a≠0#64∧inS a s=true∧a≠s:=by
 obtain⟨h1,h2⟩:=(CY s a).1 ((List.dropLast_sublist _).subset h)
 refine⟨h1,h2,?_⟩
 rintro rfl
 have hs:a∈BS a:=(CY a a).2 ⟨h1,(DB a a).2 fun n hn=>hn⟩
 have hne:BS a≠[]:=List.ne_nil_of_mem hs
 have hlt:=LF a
 rw[← List.dropLast_concat_getLast hne] at hlt
 have h3:=(List.pairwise_append.1 hlt).2.2 a h _ (List.mem_singleton.2 rfl)
 have h4:=(CY a _).1 (List.getLast_mem hne)
 have h5:=Me h4.2
 omega
theorem NN {α β:Type} (f:α→List β) (n:Nat):∀ (l:List α),(∀ x∈l,(f x).length≤n)→(l.flatMap f).length≤l.length * n:=by
 intro l
 induction l with
 | nil=>intro _;simp
 | cons x l ih =>
  intro h
  have h1:=h x List.mem_cons_self
  have h2:=ih fun y hy=>h y (List.mem_cons_of_mem _ hy)
  rw[List.flatMap_cons,List.length_append,List.length_cons,Nat.succ_mul]
  omega
theorem VZ (es:List AD):∀ (n:Nat) (s:AC),Al s≤5→(spF es n s).length≤spL (Al s):=by
 intro n
 induction n with
 | zero=>intro s _;exact Nat.zero_le _
 | succ n ih =>
  intro s hc
  rw[spF]
  split
  ·rename_i h1;rw[h1];exact Nat.le_refl _
  ·rename_i h1
   have key:∀ M,(∀ a,a∈(BS s).dropLast→spL (Al a) * spL (Al (s&&&~~~a))≤M)→((BS s).dropLast.flatMap fun a=>if DD es a (s&&&~~~a)=true then(spF es n a).flatMap fun x=>(spF es n (s&&&~~~a)).map fun y=>DA es a (s&&&~~~a) x y else []).length≤(2 ^ Al s - 1 - 1) * M:=fun M hM=>by
    refine Nat.le_trans (NN _ M _ fun a ha=>?_) ?_
    ·obtain⟨h2,h3,h4⟩:=IY ha
     obtain⟨h5,h6,h7⟩:=NP h3 h2 h4
     split
     ·refine Nat.le_trans (NN _ (spL (Al (s&&&~~~a))) _ fun x hx=>?_) (Nat.le_trans (Nat.mul_le_mul_right _ (ih a (by omega))) (hM a ha))
      rw[List.length_map];exact ih _ (by omega)
     ·exact Nat.zero_le _
    ·rw[List.length_dropLast,KK];exact Nat.le_refl _
   have At:∀ a,a∈(BS s).dropLast→1≤Al a∧1≤Al (s&&&~~~a)∧Al a+Al (s&&&~~~a)=Al s:=fun a ha=>by
    obtain⟨h2,h3,h4⟩:=IY ha
    exact NP h3 h2 h4
   have fin:∀ M,(∀ p q,1≤p→1≤q→p+q=Al s→spL p * spL q≤M)→(2 ^ Al s - 1 - 1) * M≤spL (Al s)→((BS s).dropLast.flatMap fun a=>if DD es a (s&&&~~~a)=true then(spF es n a).flatMap fun x=>(spF es n (s&&&~~~a)).map fun y=>DA es a (s&&&~~~a) x y else []).length≤spL (Al s):=fun M h2 h3 =>
    Nat.le_trans (key M fun a ha=>by obtain⟨h4,h5,h6⟩:=At a ha;exact h2 _ _ h4 h5 h6) h3
   have hcases:Al s=0∨Al s=2∨Al s=3∨Al s=4∨Al s=5:=by omega
   rcases hcases with e | e | e | e | e
   ·refine fin 1 (fun p q h2 h3 h4=>by omega) (by rw[e];decide)
   ·refine fin 1 (fun p q h2 h3 h4=>?_) (by rw[e];decide)
    obtain rfl:p=1:=by omega
    obtain rfl:q=1:=by omega
    decide
   ·refine fin 4 (fun p q h2 h3 h4=>?_) (by rw[e];decide)
    have:p=1∨p=2:=by omega
    rcases this with rfl | rfl
    ·obtain rfl:q=2:=by omega
     decide
    ·obtain rfl:q=1:=by omega
     decide
   ·refine fin 32 (fun p q h2 h3 h4=>?_) (by rw[e];decide)
    have:p=1∨p=2∨p=3:=by omega
    rcases this with rfl | rfl | rfl
    ·obtain rfl:q=3:=by omega
     decide
    ·obtain rfl:q=2:=by omega
     decide
    ·obtain rfl:q=1:=by omega
     decide
   ·refine fin 512 (fun p q h2 h3 h4=>?_) (by rw[e];decide)
    have:p=1∨p=2∨p=3∨p=4:=by omega
    rcases this with rfl | rfl | rfl | rfl
    ·obtain rfl:q=4:=by omega
     decide
    ·obtain rfl:q=3:=by omega
     decide
    ·obtain rfl:q=2:=by omega
     decide
    ·obtain rfl:q=1:=by omega
     decide
theorem XN (c:Ai) (x y:AA):IW (c,x,y)=some ⟨c.Kind,0,[x,y],c.Preds,false⟩:=rfl
section
variable {es:List AD}
theorem AMl (s:AC) (At:List AC) (i k:Int) (xs ys:List AA) (c:Ai) (x:AA) (hx:AX xs k=some x):∀ (post pre acc:List AA),pre++post=ys→pre.length+post.length≤100000→acc.length+post.length≤1000000000 →
  Ao.l2 (es,s,acc,At,i,xs,ys,k,(pre.length:Int),c)=some (acc++post.map fun y=>⟨c.Kind,0,[x,y],c.Preds,false⟩):=by
 intro post
 induction post with
 | nil=>intro pre acc he _ _;rw[List.append_nil] at he;subst he;rw[Ao.l2,if_neg (dge (by dsimp only;omega))];simp
 | cons y l ih =>
  intro pre acc he h1 h2
  simp only[List.length_cons] at h1 h2
  have hlen:pre.length+(l.length+1)=ys.length:=by rw[← he,List.length_append];rfl
  rw[Ao.l2,if_pos (dlt (by dsimp only;omega))]
  dsimp only
  rw[hx]
  simp -implicitDefEqProofs only[Option.bind_eq_bind,Option.bind_some]
  have hy:AX ys (pre.length:Int)=some y:=by rw[← he,Ef]
  rw[hy]
  simp -implicitDefEqProofs only[Option.bind_some,XN]
  rw[Bp (by simp only[List.length_cons,List.length_nil];omega),AU (by omega)]
  simp -implicitDefEqProofs only[Option.bind_some]
  have:=ih (pre++[y]) (acc++[⟨c.Kind,0,[x,y],c.Preds,false⟩]) (by rw[List.append_assoc];exact he) (by rw[CF];omega) (by rw[CF];omega)
  rw[CF,List.append_assoc] at this
  exact this
theorem AND (s:AC) (At:List AC) (i:Int) (xs ys:List AA) (c:Ai) (hys:ys.length≤100000):∀ (post pre acc:List AA),pre++post=xs→pre.length+post.length≤100000→acc.length+post.length * ys.length≤1000000000 →
  Ao.l1 (es,s,acc,At,i,xs,ys,(pre.length:Int),c)=some (acc++post.flatMap fun x=>ys.map fun y=>⟨c.Kind,0,[x,y],c.Preds,false⟩):=by
 intro post
 induction post with
 | nil=>intro pre acc he _ _;rw[List.append_nil] at he;subst he;rw[Ao.l1,if_neg (dge (by dsimp only;omega))];simp
 | cons x l ih =>
  intro pre acc he h1 h2
  simp only[List.length_cons,Nat.succ_mul] at h1 h2
  have hlen:pre.length+(l.length+1)=xs.length:=by rw[← he,List.length_append];rfl
  rw[Ao.l1,if_pos (dlt (by dsimp only;omega))]
  dsimp only
  have hx:AX xs (pre.length:Int)=some x:=by rw[← he,Ef]
  have h3:=AMl (es:=es) s At i (pre.length:Int) xs ys c x hx ys [] acc rfl (by simp;omega) (by omega)
  rw[List.length_nil,show ((0:Nat):Int)=0 from rfl] at h3
  rw[h3]
  simp -implicitDefEqProofs only[Option.bind_eq_bind,Option.bind_some]
  rw[AU (by omega)]
  have:=ih (pre++[x]) (acc++ys.map fun y=>⟨c.Kind,0,[x,y],c.Preds,false⟩) (by rw[List.append_assoc];exact he) (by rw[CF];omega) (by rw[List.length_append,List.length_map];omega)
  rw[CF,List.append_assoc] at this
  exact this
theorem SM (w:Gp es):∀ (n:Nat) (s:AC),Al s≤n→Al s≤5→1≤n→Ao (es,s)=some (spF es n s):=by
 intro n
 induction n with
 | zero=>intro s _ _ h;omega
 | succ n ih =>
  intro s hn hc _
  rw[Ao,spF]
  dsimp only
  rw[Jc]
  simp -implicitDefEqProofs only[Option.bind_eq_bind,Option.bind_some]
  by_cases h1:Al s=1
  ·rw[if_pos (by unfold Al at h1;simp[h1]),if_pos h1]
   have hm:Ht s=some (Fr s):=by
    unfold Ht Fr
    rw[LL]
    simp -implicitDefEqProofs only[Option.bind_eq_bind,Option.bind_some]
    unfold Al at h1
    cases hl:Bf s with
    | nil=>rw[hl] at h1;cases h1
    | cons i l=>rw[if_neg (by simp;omega)];rfl
   rw[hm];rfl
  ·rw[if_neg (by unfold Al at h1;simp;omega),if_neg h1]
   rw[Ng s (by unfold Al at hc;omega)]
   simp -implicitDefEqProofs only[Option.bind_some]
   have hpl:(BS s).length≤31:=by
    rw[KK]
    have:2 ^ (Bf s).length≤2 ^ 5:=Nat.pow_le_pow_right (by omega) hc
    omega
   have key:∀ (post pre:List AC) (acc:List AA),pre++post=BS s→acc.length≤pre.length * 16384→Ao.l0 (es,s,acc,BS s,(pre.length:Int))=some (acc++post.dropLast.flatMap fun a=>if DD es a (s&&&~~~a)=true then(spF es n a).flatMap fun x=>(spF es n (s&&&~~~a)).map fun y=>DA es a (s&&&~~~a) x y else []):=by
    intro post
    induction post with
    | nil =>
     intro pre acc he _
     rw[List.append_nil] at he
     rw[Ao.l0,if_neg (by dsimp only;rw[← he,AU (by rw[← he] at hpl;omega)];simp;omega)]
     simp
    | cons a l ih2 =>
     intro pre acc he hacc
     have hlen:pre.length+(l.length+1)=(BS s).length:=by rw[← he,List.length_append];rfl
     cases l with
     | nil =>
      rw[Ao.l0,if_neg (by dsimp only;rw[AU (by omega)];simp only[decide_eq_true_eq];simp at hlen;omega)]
      simp
     | cons z l =>
      simp only[List.length_cons] at hlen
      have hnext:=fun acc' h=>ih2 (pre++[a]) acc' (by rw[List.append_assoc];exact he) (by rw[CF];exact h)
      rw[CF] at hnext
      rw[Ao.l0,if_pos (by dsimp only;rw[AU (by omega)];simp only[decide_eq_true_eq];omega)]
      dsimp only
      have ha:AX (BS s) (pre.length:Int)=some a:=by rw[← he,Ef]
      have hmem:a∈(BS s).dropLast:=by
       rw[← he,List.dropLast_append_of_ne_nil (by simp)]
       simp
      obtain⟨g1,g2,g3⟩:=IY hmem
      obtain⟨g4,g5,g6⟩:=NP g2 g1 g3
      rw[ha,AU (by omega)]
      simp -implicitDefEqProofs only[Option.bind_eq_bind,Option.bind_some]
      rw[PD w]
      simp -implicitDefEqProofs only[Option.bind_some]
      rw[List.dropLast_cons_of_ne_nil (by simp),List.flatMap_cons]
      cases hj:DD es a (s&&&~~~a)
      ·simp only[Bool.false_eq_true,if_false,List.nil_append]
       exact hnext acc (Nat.le_trans hacc (Nat.mul_le_mul_right _ (Nat.le_succ _)))
      ·simp only[if_true]
       rw[ih a (by omega) (by omega) (by omega)]
       simp -implicitDefEqProofs only[Option.bind_some]
       have hxl:=VZ es n a (by omega)
       have hyl:=VZ es n (s&&&~~~a) (by omega)
       by_cases hx:spF es n a=[]
       ·rw[if_pos (by simp[hx]),hx,List.flatMap_nil,List.nil_append]
        exact hnext acc (Nat.le_trans hacc (Nat.mul_le_mul_right _ (Nat.le_succ _)))
       ·have hxp:=List.length_pos_iff.2 hx
        rw[if_neg (by simp;omega),ih (s&&&~~~a) (by omega) (by omega) (by omega)]
        simp -implicitDefEqProofs only[Option.bind_some]
        have hb:spL (Al a) * spL (Al (s&&&~~~a))≤512:=by
         have hp:Al a=1∨Al a=2∨Al a=3∨Al a=4:=by omega
         have hq:Al (s&&&~~~a)=1∨Al (s&&&~~~a)=2∨Al (s&&&~~~a)=3∨Al (s&&&~~~a)=4:=by omega
         rcases hp with e | e | e | e <;> rcases hq with e2 | e2 | e2 | e2 <;> first | (exfalso;omega) | (rw[e,e2];decide)
        have hprod:(spF es n a).length * (spF es n (s&&&~~~a)).length≤512:=Nat.le_trans (Nat.mul_le_mul hxl hyl) hb
        have hyb:(spF es n (s&&&~~~a)).length≤512:=by
         have:=Nat.le_mul_of_pos_left (spF es n (s&&&~~~a)).length hxp
         omega
        have hxb:(spF es n a).length≤16384:=by
         have hp:Al a=1∨Al a=2∨Al a=3∨Al a=4:=by omega
         rcases hp with e | e | e | e <;> rw[e] at hxl <;> simp[spL] at hxl <;> omega
        have h3:=AND (es:=es) s (BS s) (pre.length:Int) (spF es n a) (spF es n (s&&&~~~a)) (Zm es a (s&&&~~~a)) (by omega) (spF es n a) [] acc rfl (by simp;omega) (by omega)
        rw[List.length_nil,show ((0:Nat):Int)=0 from rfl] at h3
        rw[h3]
        simp -implicitDefEqProofs only[Option.bind_some]
        refine(hnext _ ?_).trans ?_
        ·rw[List.length_append]
         have:=NN (fun x=>(spF es n (s&&&~~~a)).map fun y=>(⟨(Zm es a (s&&&~~~a)).Kind,0,[x,y],(Zm es a (s&&&~~~a)).Preds,false⟩:AA)) (spF es n (s&&&~~~a)).length (spF es n a) (fun x _=>by rw[List.length_map];exact Nat.le_refl _)
         omega
        ·rw[List.append_assoc];rfl
   have h0:=key (BS s) [] [] rfl (Nat.zero_le _)
   rw[List.length_nil,show ((0:Nat):Int)=0 from rfl,List.nil_append] at h0
   rw[h0];rfl
end
end
section
theorem AHn:okF Tryz.f142=true:=by kernel_rfl
def BX.l0 (x:AC × List AD × Int × Int):Option (AC) :=
 if(decide (x.2.2.2<x.2.2.1))=true then
  (AX x.2.1 x.2.2.2)>>=fun (e2:AD) =>
  if(e2.Kind == 3)=true then
   BX.l0 ((x.1|||e2.Right),x.2.1,x.2.2.1,(w64 (x.2.2.2+1)))
  else
   if(e2.Kind == 4)=true then
    BX.l0 ((x.1|||e2.Right),x.2.1,x.2.2.1,(w64 (x.2.2.2+1)))
   else
    BX.l0 (x.1,x.2.1,x.2.2.1,(w64 (x.2.2.2+1)))
 else
  some x.1
 partial_fixpoint
theorem BX.l0.ws:PC BX.l0 (fun x o=>∀ lo c (Q:EP) (hb:∀ s:AC,o=s→Q (.exit 0) ⟨[(3,.v (.w s))],[]⟩),AJ Tryz.prog 142 lo c 0 (VQ Q) ⟨[(3,.v (.w x.1)),(6,.v (.slice .foreign (x.2.1.map AD.av))),(7,.v (.i64 x.2.2.1)),(8,.v (.i64 x.2.2.2))],[]⟩):=by
 refine BX.l0.partial_correctness _ ?_
 ·intro PT OO x o h
  have ACl:AH PT _:=⟨OO⟩
  intro lo c Q hb
  refine AJ.step mix ACq (by kernel_rfl) ?_
  simp -implicitDefEqProofs only[go_sem,Tryz.f142]
  exact AN
instance BX.l0.w:type_of% (AH.mk BX.l0.ws):=⟨BX.l0.ws⟩
def BX (x:List AD):Option (AC) :=
 BX.l0 (0#64,x,(x.length:Int),0)>>=fun (o6:AC) =>
 some o6
instance BX.w:AH BX (fun x r=>Fn Tryz.prog 142 [.slice .foreign (x.map AD.av)] (.w r)):=⟨by
 intro x r h
 rw[BX] at h
 try dsimp only
 refine Fn.of_lc mix ACq AHn (by rfl) (flC (AQ _ AD.flat _) (flN)) (.atom _) ?_
 simp -implicitDefEqProofs only[go_sem,Tryz.f142]
 exact AN⟩
end
section
theorem AH8:okF Tryz.f143=true:=by kernel_rfl
def Bc.l0 (x:AC × List AC × Int × Int):Option (AC) :=
 if(decide (x.2.2.2<x.2.2.1))=true then
  (AX x.2.1 x.2.2.2)>>=fun (e2:AC) =>
  Id (x.1,e2)>>=fun r4 =>
  Bc.l0 (r4,x.2.1,x.2.2.1,(w64 (x.2.2.2+1)))
 else
  some x.1
 partial_fixpoint
theorem Bc.l0.ws:PC Bc.l0 (fun x o=>∀ lo c (Q:EP) (hb:∀ s:AC,o=s→Q (.exit 0) ⟨[(3,.v (.w s))],[]⟩),AJ Tryz.prog 143 lo c 0 (VQ Q) ⟨[(3,.v (.w x.1)),(6,.v (.slice .foreign (x.2.1.map AV.w))),(7,.v (.i64 x.2.2.1)),(8,.v (.i64 x.2.2.2))],[]⟩):=by
 refine Bc.l0.partial_correctness _ ?_
 ·intro Om Ni x o h
  have ACH:AH Om _:=⟨Ni⟩
  intro lo c Q hb
  refine AJ.step mix ADr (by kernel_rfl) ?_
  simp -implicitDefEqProofs only[go_sem,Tryz.f143]
  exact AN
instance Bc.l0.w:type_of% (AH.mk Bc.l0.ws):=⟨Bc.l0.ws⟩
def Bc (x:List AC):Option (AC) :=
 Bc.l0 (1#64,x,(x.length:Int),0)>>=fun (o6:AC) =>
 some o6
instance Bc.w:AH Bc (fun x r=>Fn Tryz.prog 143 [.slice .foreign (x.map AV.w)] (.w r)):=⟨by
 intro x r h
 rw[Bc] at h
 try dsimp only
 refine Fn.of_lc mix ADr AH8 (by rfl) (flC (AQ _ (fun _=>.atom _) _) (flN)) (.atom _) ?_
 simp -implicitDefEqProofs only[go_sem,Tryz.f143]
 exact AN⟩
end
section
@[go_sem] theorem ANu:lrp Tryz.prog 144 1=(15,[]):=by kernel_rfl
theorem AId:okF Tryz.f144=true:=by kernel_rfl
@[go_sem] theorem ANz:lrp Tryz.prog 122 2=(7,[]):=by kernel_rfl
theorem AIS:okF Tryz.f122=true:=by kernel_rfl
def Ax.l0 (x:List AC × List Int × Int × Int × List AD × Bb × AC):Option (List AC) :=
 if(decide (x.2.2.2.1<x.2.2.1))=true then
  (AX x.2.1 x.2.2.2.1)>>=fun (e6:Int) =>
  if(decide (e6<(x.2.2.2.2.2.1.Rows.length:Int)))=true then
   (AX x.2.2.2.2.2.1.Rows e6)>>=fun (e9:AC) =>
   (room 8 x.1 ([e9]))>>=fun (z11:List AC) =>
   Ax.l0 (z11,x.2.1,x.2.2.1,(w64 (x.2.2.2.1+1)),x.2.2.2.2.1,x.2.2.2.2.2.1,x.2.2.2.2.2.2)
  else
   Ax.l0 (x.1,x.2.1,x.2.2.1,(w64 (x.2.2.2.1+1)),x.2.2.2.2.1,x.2.2.2.2.2.1,x.2.2.2.2.2.2)
 else
  some x.1
 partial_fixpoint
theorem Ax.l0.ws:PC Ax.l0 (fun x o=>∀ lo c (Q:EP) (hb:∀ s:List AC,o=s→Q (.exit 0) ⟨[(3,.lref 3 0),(4,.lref 4 0),(5,.lref 5 0),(7,.own 100700 1 (s.map AV.w))],[(3,[.v (.slice .foreign (x.2.2.2.2.1.map AD.av))]),(4,[.v (.slice .foreign (x.2.2.2.2.2.1.Rows.map AV.w)),.v (.slice .foreign (x.2.2.2.2.2.1.Sel.map AV.w))]),(5,[.v (.w x.2.2.2.2.2.2)])]⟩),AJ Tryz.prog 122 lo c 0 (VQ Q) ⟨[(3,.lref 3 0),(4,.lref 4 0),(5,.lref 5 0),(7,.own 100700 1 (x.1.map AV.w)),(17,.v (.slice .foreign (x.2.1.map AV.i64))),(18,.v (.i64 x.2.2.1)),(19,.v (.i64 x.2.2.2.1))],[(3,[.v (.slice .foreign (x.2.2.2.2.1.map AD.av))]),(4,[.v (.slice .foreign (x.2.2.2.2.2.1.Rows.map AV.w)),.v (.slice .foreign (x.2.2.2.2.2.1.Sel.map AV.w))]),(5,[.v (.w x.2.2.2.2.2.2)])]⟩):=by
 refine Ax.l0.partial_correctness _ ?_
 ·intro Rg Qs x o h
  have AFF:AH Rg _:=⟨Qs⟩
  intro lo c Q hb
  refine AJ.step mix ZZ (by kernel_rfl) ?_
  simp -implicitDefEqProofs only[go_sem,Tryz.f122]
  exact AN
instance Ax.l0.w:type_of% (AH.mk Ax.l0.ws):=⟨Ax.l0.ws⟩
def GQ (x:Int × Bb × List AD × AC):Option (Bool) :=
 if(decide (x.1<(x.2.1.Sel.length:Int)))=true then
  (AX x.2.2.1 x.1)>>=fun (e2:AD) =>
  Df (e2.Uses,x.2.2.2)>>=fun r4 =>
  some r4
 else
  some false
instance GQ.w:AH GQ (fun x r=>FnB Tryz.prog 144 [(3000000,[.v (.slice .foreign (x.2.1.Rows.map AV.w)),.v (.slice .foreign (x.2.1.Sel.map AV.w))]),(3000001,[.v (.slice .foreign (x.2.2.1.map AD.av))]),(3000002,[.v (.w x.2.2.2)])] [.a (.i64 x.1),.p 3000000,.p 3000001,.p 3000002] (.bool r) [(3000000,[.v (.slice .foreign (x.2.1.Rows.map AV.w)),.v (.slice .foreign (x.2.1.Sel.map AV.w))]),(3000001,[.v (.slice .foreign (x.2.2.1.map AD.av))]),(3000002,[.v (.w x.2.2.2)])]):=⟨by
 intro x r h
 rw[GQ] at h
 try dsimp only
 refine FnB.of_lc mix AKt AId (by rfl) (by rfl) fun c=>?_
 simp -implicitDefEqProofs only[go_sem,Tryz.f144]
 revert h;refine itE (fun h1 h=>?_) fun h1 h=>?_
 ·try simp -implicitDefEqProofs only[go_sem, *, -h]
  obtain⟨e2,h3,h⟩:=AE h;replace h3:=Dw h3;obtain⟨h3',h3⟩:=h3
  try simp -implicitDefEqProofs only[go_sem, *, -h]
  obtain⟨r4,h5,h⟩:=AE h
  refine .plain _ _ rfl (Df.w.w (e2.Uses,x.2.2.2) _ h5) ?_
  try simp -implicitDefEqProofs only[go_sem, *, -h]
  injection h with h;subst h
  first | exact⟨AL,[],by rfl,AL⟩ | exact⟨AL,[],by rfl⟩ | exact⟨AL,[],by(simp -implicitDefEqProofs only[go_sem, *] <;> first | done | rfl | trivial)⟩ | exact⟨[],by rfl,AL⟩ | exact⟨[],by rfl,by(simp -implicitDefEqProofs only[go_sem, *] <;> first | done | rfl | trivial)⟩
 ·try simp -implicitDefEqProofs only[go_sem, *, -h]
  injection h with h;subst h
  first | exact⟨AL,[],by rfl,AL⟩ | exact⟨AL,[],by rfl⟩ | exact⟨AL,[],by(simp -implicitDefEqProofs only[go_sem, *] <;> first | done | rfl | trivial)⟩ | exact⟨[],by rfl,AL⟩ | exact⟨[],by rfl,by(simp -implicitDefEqProofs only[go_sem, *] <;> first | done | rfl | trivial)⟩⟩
def Ax.l1 (x:AC × Int × Int × List AD × Bb × AC):Option (AC) :=
 if(decide (x.2.2.1<x.2.1))=true then
  GQ (x.2.2.1,x.2.2.2.2.1,x.2.2.2.1,x.2.2.2.2.2)>>=fun r18 =>
  if r18=true then
   (AX x.2.2.2.2.1.Sel x.2.2.1)>>=fun (e21:AC) =>
   HJ (x.1,e21)>>=fun r23 =>
   Ax.l1 (r23,x.2.1,(w64 (x.2.2.1+1)),x.2.2.2.1,x.2.2.2.2.1,x.2.2.2.2.2)
  else
   Ax.l1 (x.1,x.2.1,(w64 (x.2.2.1+1)),x.2.2.2.1,x.2.2.2.2.1,x.2.2.2.2.2)
 else
  some x.1
 partial_fixpoint
theorem Ax.l1.ws:PC Ax.l1 (fun x o=>∀ lo c (Q:EP) (hb:∀ s:AC,o=s→Q (.exit 2) ⟨[(10,.v (.w s))],[]⟩),AJ Tryz.prog 122 lo c 1 (VQ Q) ⟨[(4,.lref 4 0),(10,.v (.w x.1)),(11,.fn 144 [] [.p 4,.p 3,.p 5]),(41,.v (.i64 x.2.1)),(42,.v (.i64 x.2.2.1))],[(3,[.v (.slice .foreign (x.2.2.2.1.map AD.av))]),(4,[.v (.slice .foreign (x.2.2.2.2.1.Rows.map AV.w)),.v (.slice .foreign (x.2.2.2.2.1.Sel.map AV.w))]),(5,[.v (.w x.2.2.2.2.2)])]⟩):=by
 refine Ax.l1.partial_correctness _ ?_
 ·intro AFL LJ x o h
  intro lo c Q hb
  refine AJ.step mix ZZ (by kernel_rfl) ?_
  simp -implicitDefEqProofs only[go_sem,Tryz.f122]
  revert h;refine itE (fun h17 h=>?_) fun h17 h=>?_
  ·try simp -implicitDefEqProofs only[go_sem, *, -h]
   obtain⟨r18,h19,h⟩:=AE h
   have hw:=GQ.w.w (x.2.2.1,x.2.2.2.2.1,x.2.2.2.1,x.2.2.2.2.2) _ h19
   refine .vars [] [(3000000,4),(3000001,3),(3000002,5)] _ _ _ _ hw AL (by rfl) (by rfl) (by rfl) (by rfl) AL AL AL ?_
   clear hw
   try simp -implicitDefEqProofs only[go_sem, *, -h]
   revert h;refine itE (fun h20 h=>?_) fun h20 h=>?_
   ·try simp -implicitDefEqProofs only[go_sem, *, -h]
    obtain⟨e21,h22,h⟩:=AE h;replace h22:=Dw h22;obtain⟨h22',h22⟩:=h22
    try simp -implicitDefEqProofs only[go_sem, *, -h]
    obtain⟨r23,h24,h⟩:=AE h
    refine .plain _ _ rfl (HJ.w.w (x.1,e21) _ h24) ?_
    try simp -implicitDefEqProofs only[go_sem, *, -h]
    exact AJ.view [] AL (LJ _ _ h lo c Q hb)
   ·try simp -implicitDefEqProofs only[go_sem, *, -h]
    exact AJ.view [] AL (LJ _ _ h lo c Q hb)
  ·try simp -implicitDefEqProofs only[go_sem, *, -h]
   injection h with h;subst h
   exact .inr ⟨[],_,by(simp -implicitDefEqProofs only[go_sem, *] <;> first | done | rfl | trivial),hb _ rfl⟩
instance Ax.l1.w:type_of% (AH.mk Ax.l1.ws):=⟨Ax.l1.ws⟩
def Ax (x:List AD × Bb × AC):Option (AC) :=
 BX x.1>>=fun r1 =>
 CT (x.2.2&&&~~~r1)>>=fun r3 =>
 Ax.l0 (([]:List AC),r3,(r3.length:Int),0,x.1,x.2.1,x.2.2)>>=fun (o13:List AC) =>
 Bc o13>>=fun r15 =>
 Ax.l1 (r15,(x.1.length:Int),0,x.1,x.2.1,x.2.2)>>=fun (o25:AC) =>
 some (Za (1#64) o25)
instance Ax.w:AH Ax (fun x r=>Fn Tryz.prog 122 [.slice .foreign (x.1.map AD.av),.agg (Bb.C x.2.1),.w x.2.2] (.w r)):=⟨by
 intro x r h
 rw[Ax] at h
 try dsimp only
 refine Fn.of_lc mix ZZ AIS (by rfl) (flC (AQ _ AD.flat _) (flC (Bb.flatC _) (flC (.atom _) (flN)))) (.atom _) ?_
 simp -implicitDefEqProofs only[go_sem,Tryz.f122]
 exact AN⟩
end
section
theorem AJP:okF Tryz.f106=true:=by kernel_rfl
def DY (x:Ae × AC):Option (AC) :=
 Ax (x.1.Edges,x.1.Stats,x.2)>>=fun r1 =>
 some r1
instance DY.w:AH DY (fun x r=>Fn Tryz.prog 106 [.agg (Ae.C x.1),.w x.2] (.w r)):=⟨by
 intro x r h
 rw[DY] at h
 try dsimp only
 refine Fn.of_lc mix AKX AJP (by rfl) (flC (Ae.flatC _) (flC (.atom _) (flN))) (.atom _) ?_
 simp -implicitDefEqProofs only[go_sem,Tryz.f106]
 exact AN⟩
end
section
theorem AHz:okF Tryz.f146=true:=by kernel_rfl
def BT.l0 (x:AC × AC × List AR × List AB × Int × Int):Option (List AR) :=
 if(decide (x.2.2.2.2.2<x.2.2.2.2.1))=true then
  (AX x.2.2.2.1 x.2.2.2.2.2)>>=fun (e2:AB) =>
  if(e2.Kind != 2)=true then
   BT.l0 (x.1,x.2.1,x.2.2.1,x.2.2.2.1,x.2.2.2.2.1,(w64 (x.2.2.2.2.2+1)))
  else
   if(e2.Op != 1)=true then
    BT.l0 (x.1,x.2.1,x.2.2.1,x.2.2.2.1,x.2.2.2.2.1,(w64 (x.2.2.2.2.2+1)))
   else
    if(e2.A.Kind != 1)=true then
     BT.l0 (x.1,x.2.1,x.2.2.1,x.2.2.2.1,x.2.2.2.2.1,(w64 (x.2.2.2.2.2+1)))
    else
     if(e2.B.Kind != 1)=true then
      BT.l0 (x.1,x.2.1,x.2.2.1,x.2.2.2.1,x.2.2.2.2.1,(w64 (x.2.2.2.2.2+1)))
     else
      Dz (x.1,e2.A.Table)>>=fun r8 =>
      if r8=true then
       Dz (x.2.1,e2.B.Table)>>=fun r11 =>
       if r11=true then
        (room 80 x.2.2.1 ([(⟨e2.A,e2.B⟩:AR)]))>>=fun (z14:List AR) =>
        BT.l0 (x.1,x.2.1,z14,x.2.2.2.1,x.2.2.2.2.1,(w64 (x.2.2.2.2.2+1)))
       else
        Dz (x.1,e2.B.Table)>>=fun r16 =>
        if r16=true then
         Dz (x.2.1,e2.A.Table)>>=fun r19 =>
         if r19=true then
          (room 80 x.2.2.1 ([(⟨e2.B,e2.A⟩:AR)]))>>=fun (z22:List AR) =>
          BT.l0 (x.1,x.2.1,z22,x.2.2.2.1,x.2.2.2.2.1,(w64 (x.2.2.2.2.2+1)))
         else
          BT.l0 (x.1,x.2.1,x.2.2.1,x.2.2.2.1,x.2.2.2.2.1,(w64 (x.2.2.2.2.2+1)))
        else
         BT.l0 (x.1,x.2.1,x.2.2.1,x.2.2.2.1,x.2.2.2.2.1,(w64 (x.2.2.2.2.2+1)))
      else
       Dz (x.1,e2.B.Table)>>=fun r24 =>
       if r24=true then
        Dz (x.2.1,e2.A.Table)>>=fun r27 =>
        if r27=true then
         (room 80 x.2.2.1 ([(⟨e2.B,e2.A⟩:AR)]))>>=fun (z30:List AR) =>
         BT.l0 (x.1,x.2.1,z30,x.2.2.2.1,x.2.2.2.2.1,(w64 (x.2.2.2.2.2+1)))
        else
         BT.l0 (x.1,x.2.1,x.2.2.1,x.2.2.2.1,x.2.2.2.2.1,(w64 (x.2.2.2.2.2+1)))
       else
        BT.l0 (x.1,x.2.1,x.2.2.1,x.2.2.2.1,x.2.2.2.2.1,(w64 (x.2.2.2.2.2+1)))
 else
  some x.2.2.1
 partial_fixpoint
theorem BT.l0.ws:PC BT.l0 (fun x o=>∀ lo c (Q:EP) (hb:∀ s:List AR,o=s→Q (.exit 0) ⟨[(7,.own 100700 10 (s.map AR.av))],[]⟩),AJ Tryz.prog 146 lo c 0 (VQ Q) ⟨[(1,.v (.w x.1)),(2,.v (.w x.2.1)),(7,.own 100700 10 (x.2.2.1.map AR.av)),(10,.v (.slice .foreign (x.2.2.2.1.map AB.av))),(11,.v (.i64 x.2.2.2.2.1)),(12,.v (.i64 x.2.2.2.2.2))],[]⟩):=by
 refine BT.l0.partial_correctness _ ?_
 ·intro Sp Ru x o h
  have AGa:AH Sp _:=⟨Ru⟩
  intro lo c Q hb
  refine AJ.step mix AEa (by kernel_rfl) ?_
  simp -implicitDefEqProofs only[go_sem,Tryz.f146]
  exact AN
instance BT.l0.w:type_of% (AH.mk BT.l0.ws):=⟨BT.l0.ws⟩
def BT (x:List AB × AC × AC):Option (List AR) :=
 BT.l0 (x.2.1,x.2.2,([]:List AR),x.1,(x.1.length:Int),0)>>=fun (o32:List AR) =>
 some o32
instance BT.w:AH BT (fun x r=>Fn Tryz.prog 146 [.slice .foreign (x.1.map AB.av),.w x.2.1,.w x.2.2] (.slice .foreign (r.map AR.av))):=⟨by
 intro x r h
 rw[BT] at h
 try dsimp only
 refine Fn.of_lc mix AEa AHz (by rfl) (flC (AQ _ AB.flat _) (flC (.atom _) (flC (.atom _) (flN)))) (AQ _ AR.flat _) ?_
 simp -implicitDefEqProofs only[go_sem,Tryz.f146]
 exact AN⟩
end
section
theorem AH3:okF Tryz.f123=true:=by kernel_rfl
def Eo (x:Ae × AC × AC × List AB):Option (Bool) :=
 BX x.1.Edges>>=fun r1 =>
 if(x.1.Kind == 2)=true then
  BT (x.2.2.2,(x.2.1&&&~~~r1),(x.2.2.1&&&~~~r1))>>=fun r4 =>
  some (decide ((r4.length:Int) > 0))
 else
  some false
instance Eo.w:AH Eo (fun x r=>Fn Tryz.prog 123 [.agg (Ae.C x.1),.w x.2.1,.w x.2.2.1,.slice .foreign (x.2.2.2.map AB.av)] (.bool r)):=⟨by
 intro x r h
 rw[Eo] at h
 try dsimp only
 refine Fn.of_lc mix AKx AH3 (by rfl) (flC (Ae.flatC _) (flC (.atom _) (flC (.atom _) (flC (AQ _ AB.flat _) (flN))))) (.atom _) ?_
 simp -implicitDefEqProofs only[go_sem,Tryz.f123]
 exact AN⟩
end
section
theorem AIB:okF Tryz.f107=true:=by kernel_rfl
def GR (x:Ae × AC × AC × List AB):Option (Int) :=
 if(x.1.Kind != 2)=true then
  some 0
 else
  Eo (x.1,x.2.1,x.2.2.1,x.2.2.2)>>=fun r2 =>
  if r2=true then
   some 1
  else
   some 2
instance GR.w:AH GR (fun x r=>Fn Tryz.prog 107 [.agg (Ae.C x.1),.w x.2.1,.w x.2.2.1,.slice .foreign (x.2.2.2.map AB.av)] (.i64 r)):=⟨by
 intro x r h
 rw[GR] at h
 try dsimp only
 refine Fn.of_lc mix AKa AIB (by rfl) (flC (Ae.flatC _) (flC (.atom _) (flC (.atom _) (flC (AQ _ AB.flat _) (flN))))) (.atom _) ?_
 simp -implicitDefEqProofs only[go_sem,Tryz.f107]
 exact AN⟩
end
section
@[go_sem] theorem AOr:lrp Tryz.prog 69 4=(10,[]):=by kernel_rfl
@[go_sem] theorem AOe:lrp Tryz.prog 69 6=(11,[]):=by kernel_rfl
theorem ALQ:okF Tryz.f69=true:=by kernel_rfl
def EU (x:Ae × AC × AC × List AB):Option (AC) :=
 DY (x.1,(x.2.1|||x.2.2.1))>>=fun r1 =>
 GR (x.1,x.2.1,x.2.2.1,x.2.2.2)>>=fun r3 =>
 if(r3 == 1)=true then
  DY (x.1,x.2.1)>>=fun r6 =>
  DY (x.1,x.2.2.1)>>=fun r8 =>
  Gz ([r6,r8,r1])>>=fun r10 =>
  some r10
 else
  if(r3 == 2)=true then
   DY (x.1,x.2.1)>>=fun r13 =>
   DY (x.1,x.2.2.1)>>=fun r15 =>
   Id (r13,r15)>>=fun r17 =>
   Gz ([r17,r1])>>=fun r19 =>
   some r19
  else
   some r1
instance EU.w:AH EU (fun x r=>Fn Tryz.prog 69 [.agg (Ae.C x.1),.w x.2.1,.w x.2.2.1,.slice .foreign (x.2.2.2.map AB.av)] (.w r)):=⟨by
 intro x r h
 rw[EU] at h
 try dsimp only
 refine Fn.of_lc mix ANN ALQ (by rfl) (flC (Ae.flatC _) (flC (.atom _) (flC (.atom _) (flC (AQ _ AB.flat _) (flN))))) (.atom _) ?_
 simp -implicitDefEqProofs only[go_sem,Tryz.f69]
 exact AN⟩
end
section
theorem AHo:okF Tryz.f127=true:=by kernel_rfl
def BJ.l0 (x:List AB × AC × AC × List AR × Int):Option (List AR) :=
 if(decide (x.2.2.2.2<(x.1.length:Int)))=true then
  (AX x.1 x.2.2.2.2)>>=fun (e2:AB) =>
  if(e2.Kind != 2)=true then
   BJ.l0 (x.1,x.2.1,x.2.2.1,x.2.2.2.1,(w64 (x.2.2.2.2+1)))
  else
   if(e2.Op != 1)=true then
    BJ.l0 (x.1,x.2.1,x.2.2.1,x.2.2.2.1,(w64 (x.2.2.2.2+1)))
   else
    if(e2.A.Kind != 1)=true then
     BJ.l0 (x.1,x.2.1,x.2.2.1,x.2.2.2.1,(w64 (x.2.2.2.2+1)))
    else
     if(e2.B.Kind != 1)=true then
      BJ.l0 (x.1,x.2.1,x.2.2.1,x.2.2.2.1,(w64 (x.2.2.2.2+1)))
     else
      CZ (x.2.1,e2.A.Table)>>=fun r8 =>
      if r8=true then
       CZ (x.2.2.1,e2.B.Table)>>=fun r11 =>
       if r11=true then
        (room 80 x.2.2.2.1 ([(⟨e2.A,e2.B⟩:AR)]))>>=fun (z14:List AR) =>
        BJ.l0 (x.1,x.2.1,x.2.2.1,z14,(w64 (x.2.2.2.2+1)))
       else
        CZ (x.2.2.1,e2.A.Table)>>=fun r16 =>
        if r16=true then
         CZ (x.2.1,e2.B.Table)>>=fun r19 =>
         if r19=true then
          (room 80 x.2.2.2.1 ([(⟨e2.B,e2.A⟩:AR)]))>>=fun (z22:List AR) =>
          BJ.l0 (x.1,x.2.1,x.2.2.1,z22,(w64 (x.2.2.2.2+1)))
         else
          BJ.l0 (x.1,x.2.1,x.2.2.1,x.2.2.2.1,(w64 (x.2.2.2.2+1)))
        else
         BJ.l0 (x.1,x.2.1,x.2.2.1,x.2.2.2.1,(w64 (x.2.2.2.2+1)))
      else
       CZ (x.2.2.1,e2.A.Table)>>=fun r24 =>
       if r24=true then
        CZ (x.2.1,e2.B.Table)>>=fun r27 =>
        if r27=true then
         (room 80 x.2.2.2.1 ([(⟨e2.B,e2.A⟩:AR)]))>>=fun (z30:List AR) =>
         BJ.l0 (x.1,x.2.1,x.2.2.1,z30,(w64 (x.2.2.2.2+1)))
        else
         BJ.l0 (x.1,x.2.1,x.2.2.1,x.2.2.2.1,(w64 (x.2.2.2.2+1)))
       else
        BJ.l0 (x.1,x.2.1,x.2.2.1,x.2.2.2.1,(w64 (x.2.2.2.2+1)))
 else
  some x.2.2.2.1
 partial_fixpoint
theorem BJ.l0.ws:PC BJ.l0 (fun x o=>∀ lo c (Q:EP) (hb:∀ s:List AR,o=s→Q (.exit 0) ⟨[(7,.own 100700 10 (s.map AR.av))],[]⟩),AJ Tryz.prog 127 lo c 0 (VQ Q) ⟨[(0,.v (.slice .foreign (x.1.map AB.av))),(1,.v (.w x.2.1)),(2,.v (.w x.2.2.1)),(7,.own 100700 10 (x.2.2.2.1.map AR.av)),(8,.v (.i64 x.2.2.2.2))],[]⟩):=by
 refine BJ.l0.partial_correctness _ ?_
 ·intro SE Pr x o h
  have AFI:AH SE _:=⟨Pr⟩
  intro lo c Q hb
  refine AJ.step mix AEl (by kernel_rfl) ?_
  simp -implicitDefEqProofs only[go_sem,Tryz.f127]
  exact AN
instance BJ.l0.w:type_of% (AH.mk BJ.l0.ws):=⟨BJ.l0.ws⟩
def BJ (x:List AB × AC × AC):Option (List AR) :=
 BJ.l0 (x.1,x.2.1,x.2.2,([]:List AR),0)>>=fun (o32:List AR) =>
 some o32
instance BJ.w:AH BJ (fun x r=>Fn Tryz.prog 127 [.slice .foreign (x.1.map AB.av),.w x.2.1,.w x.2.2] (.slice .foreign (r.map AR.av))):=⟨by
 intro x r h
 rw[BJ] at h
 try dsimp only
 refine Fn.of_lc mix AEl AHo (by rfl) (flC (AQ _ AB.flat _) (flC (.atom _) (flC (.atom _) (flN)))) (AQ _ AR.flat _) ?_
 simp -implicitDefEqProofs only[go_sem,Tryz.f127]
 exact AN⟩
end
section
theorem AIy:okF Tryz.f147=true:=by kernel_rfl
def BW.l0 (x:List AD × Int × Int):Option (Lp (Unit) (Bool)) :=
 if(decide (x.2.2<(x.1.length:Int)))=true then
  (AX x.1 x.2.2)>>=fun (e2:AD) =>
  if(e2.Kind == 3)=true then
   CZ (e2.Right,x.2.1)>>=fun r5 =>
   if r5=true then
    some (.ret true)
   else
    BW.l0 (x.1,x.2.1,(w64 (x.2.2+1)))
  else
   if(e2.Kind == 4)=true then
    CZ (e2.Right,x.2.1)>>=fun r9 =>
    if r9=true then
     some (.ret true)
    else
     BW.l0 (x.1,x.2.1,(w64 (x.2.2+1)))
   else
    BW.l0 (x.1,x.2.1,(w64 (x.2.2+1)))
 else
  some (.brk ())
 partial_fixpoint
theorem BW.l0.ws:PC BW.l0 (fun x o=>∀ lo c (Q:EP) (hb:∀ s:Unit,o=Lp.brk s→Q (.exit 0) ⟨[],[]⟩) (hr:∀ (r:Bool) (L:AM),o=.ret r→DO Tryz.prog [.tmp 4] (.bool r) (fun _=>True) .ret L→Q .ret L),AJ Tryz.prog 147 lo c 0 (VQ Q) ⟨[(0,.v (.slice .foreign (x.1.map AD.av))),(1,.v (.i64 x.2.1)),(5,.v (.i64 x.2.2))],[]⟩):=by
 refine BW.l0.partial_correctness _ ?_
 ·intro PR OA x o h
  have ACo:AH PR _:=⟨OA⟩
  intro lo c Q hb hr
  refine AJ.step mix ACu (by kernel_rfl) ?_
  simp -implicitDefEqProofs only[go_sem,Tryz.f147]
  exact AN
instance BW.l0.w:type_of% (AH.mk BW.l0.ws):=⟨BW.l0.ws⟩
def BW (x:List AD × Int):Option (Bool) :=
 BW.l0 (x.1,x.2,0)>>=fun (o12:Lp (Unit) (Bool))=>match o12 with
 | .brk s15 =>
  some false
 | .ret r14 =>
  some r14
instance BW.w:AH BW (fun x r=>Fn Tryz.prog 147 [.slice .foreign (x.1.map AD.av),.i64 x.2] (.bool r)):=⟨by
 intro x r h
 rw[BW] at h
 try dsimp only
 refine Fn.of_lc mix ACu AIy (by rfl) (flC (AQ _ AD.flat _) (flC (.atom _) (flN))) (.atom _) ?_
 simp -implicitDefEqProofs only[go_sem,Tryz.f147]
 exact AN⟩
end
section
theorem AJI:okF Tryz.f126=true:=by kernel_rfl
def Bv.l0 (x:List AD × List Int × Int):Option (List Int) :=
 if(decide (x.2.2<64))=true then
  BW (x.1,x.2.2)>>=fun r2 =>
  if r2=true then
   (room 8 x.2.1 ([x.2.2]))>>=fun (z5:List Int) =>
   Bv.l0 (x.1,z5,(w64 (x.2.2+1)))
  else
   Bv.l0 (x.1,x.2.1,(w64 (x.2.2+1)))
 else
  some x.2.1
 partial_fixpoint
theorem Bv.l0.ws:PC Bv.l0 (fun x o=>∀ lo c (Q:EP) (hb:∀ s:List Int,o=s→Q (.exit 0) ⟨[(3,.own 100300 1 (s.map AV.i64))],[]⟩),AJ Tryz.prog 126 lo c 0 (VQ Q) ⟨[(0,.v (.slice .foreign (x.1.map AD.av))),(3,.own 100300 1 (x.2.1.map AV.i64)),(4,.v (.i64 x.2.2))],[]⟩):=by
 refine Bv.l0.partial_correctness _ ?_
 ·intro PX OM x o h
  have ACn:AH PX _:=⟨OM⟩
  intro lo c Q hb
  refine AJ.step mix ADa (by kernel_rfl) ?_
  simp -implicitDefEqProofs only[go_sem,Tryz.f126]
  exact AN
instance Bv.l0.w:type_of% (AH.mk Bv.l0.ws):=⟨Bv.l0.ws⟩
def Bv (x:List AD):Option (AC) :=
 Bv.l0 (x,([]:List Int),0)>>=fun (o7:List Int) =>
 BO o7>>=fun r9 =>
 some r9
instance Bv.w:AH Bv (fun x r=>Fn Tryz.prog 126 [.slice .foreign (x.map AD.av)] (.w r)):=⟨by
 intro x r h
 rw[Bv] at h
 try dsimp only
 refine Fn.of_lc mix ADa AJI (by rfl) (flC (AQ _ AD.flat _) (flN)) (.atom _) ?_
 simp -implicitDefEqProofs only[go_sem,Tryz.f126]
 exact AN⟩
end
section
theorem AIE:okF Tryz.f110=true:=by kernel_rfl
def Ea (x:Aj × AC × AC × List AB):Option (Bool) :=
 Bv x.1.Edges>>=fun r1 =>
 if(x.1.Kind == 2)=true then
  BJ (x.2.2.2,(x.2.1&&&~~~r1),(x.2.2.1&&&~~~r1))>>=fun r4 =>
  some (decide ((r4.length:Int) > 0))
 else
  some false
instance Ea.w:AH Ea (fun x r=>Fn Tryz.prog 110 [.agg (Aj.C x.1),.w x.2.1,.w x.2.2.1,.slice .foreign (x.2.2.2.map AB.av)] (.bool r)):=⟨by
 intro x r h
 rw[Ea] at h
 try dsimp only
 refine Fn.of_lc mix AKY AIE (by rfl) (flC (Aj.flatC _) (flC (.atom _) (flC (.atom _) (flC (AQ _ AB.flat _) (flN))))) (.atom _) ?_
 simp -implicitDefEqProofs only[go_sem,Tryz.f110]
 exact AN⟩
end
section
theorem AI0:okF Tryz.f125=true:=by kernel_rfl
def Az.l0 (x:List AD × AC × AC × Int × Bb):Option (AC) :=
 if(decide (x.2.2.2.1<64))=true then
  if(decide (x.2.2.2.1<(x.2.2.2.2.Rows.length:Int)))=true then
   CZ (x.2.1,x.2.2.2.1)>>=fun r3 =>
   if r3=true then
    BW (x.1,x.2.2.2.1)>>=fun r6 =>
    if r6=true then
     Az.l0 (x.1,x.2.1,x.2.2.1,(w64 (x.2.2.2.1+1)),x.2.2.2.2)
    else
     (AX x.2.2.2.2.Rows x.2.2.2.1)>>=fun (e9:AC) =>
     FY (x.2.2.1,e9)>>=fun r11 =>
     Az.l0 (x.1,x.2.1,r11,(w64 (x.2.2.2.1+1)),x.2.2.2.2)
   else
    Az.l0 (x.1,x.2.1,x.2.2.1,(w64 (x.2.2.2.1+1)),x.2.2.2.2)
  else
   some x.2.2.1
 else
  some x.2.2.1
 partial_fixpoint
theorem Az.l0.ws:PC Az.l0 (fun x o=>∀ lo c (Q:EP) (hb:∀ s:AC,o=s→Q (.exit 0) ⟨[(0,.v (.slice .foreign (x.1.map AD.av))),(2,.v (.w x.2.1)),(4,.lref 4 0),(7,.v (.w s))],[(4,[.v (.slice .foreign (x.2.2.2.2.Rows.map AV.w)),.v (.slice .foreign (x.2.2.2.2.Sel.map AV.w))])]⟩),AJ Tryz.prog 125 lo c 0 (VQ Q) ⟨[(0,.v (.slice .foreign (x.1.map AD.av))),(2,.v (.w x.2.1)),(4,.lref 4 0),(7,.v (.w x.2.2.1)),(8,.v (.i64 x.2.2.2.1))],[(4,[.v (.slice .foreign (x.2.2.2.2.Rows.map AV.w)),.v (.slice .foreign (x.2.2.2.2.Sel.map AV.w))])]⟩):=by
 refine Az.l0.partial_correctness _ ?_
 ·intro Rk QR x o h
  have AFV:AH Rk _:=⟨QR⟩
  intro lo c Q hb
  refine AJ.step mix Ya (by kernel_rfl) ?_
  simp -implicitDefEqProofs only[go_sem,Tryz.f125]
  exact AN
instance Az.l0.w:type_of% (AH.mk Az.l0.ws):=⟨Az.l0.ws⟩
def Az.l1 (x:List AD × AC × AC × Int × Bb):Option (AC) :=
 if(decide (x.2.2.2.1<(x.1.length:Int)))=true then
  if(decide (x.2.2.2.1<(x.2.2.2.2.Sel.length:Int)))=true then
   (AX x.1 x.2.2.2.1)>>=fun (e17:AD) =>
   CH (e17.Uses,x.2.1)>>=fun r19 =>
   if r19=true then
    (AX x.2.2.2.2.Sel x.2.2.2.1)>>=fun (e22:AC) =>
    Gs (x.2.2.1,e22)>>=fun r24 =>
    Az.l1 (x.1,x.2.1,r24,(w64 (x.2.2.2.1+1)),x.2.2.2.2)
   else
    Az.l1 (x.1,x.2.1,x.2.2.1,(w64 (x.2.2.2.1+1)),x.2.2.2.2)
  else
   some x.2.2.1
 else
  some x.2.2.1
 partial_fixpoint
theorem Az.l1.ws:PC Az.l1 (fun x o=>∀ lo c (Q:EP) (hb:∀ s:AC,o=s→Q (.exit 2) ⟨[(7,.v (.w s))],[]⟩),AJ Tryz.prog 125 lo c 1 (VQ Q) ⟨[(0,.v (.slice .foreign (x.1.map AD.av))),(2,.v (.w x.2.1)),(4,.lref 4 0),(7,.v (.w x.2.2.1)),(9,.v (.i64 x.2.2.2.1))],[(4,[.v (.slice .foreign (x.2.2.2.2.Rows.map AV.w)),.v (.slice .foreign (x.2.2.2.2.Sel.map AV.w))])]⟩):=by
 refine Az.l1.partial_correctness _ ?_
 ·intro Rz Qw x o h
  have AFS:AH Rz _:=⟨Qw⟩
  intro lo c Q hb
  refine AJ.step mix Ya (by kernel_rfl) ?_
  simp -implicitDefEqProofs only[go_sem,Tryz.f125]
  exact AN
instance Az.l1.w:type_of% (AH.mk Az.l1.ws):=⟨Az.l1.ws⟩
def Az (x:List AD × Bb × AC):Option (AC) :=
 Az.l0 (x.1,x.2.2,1#64,0,x.2.1)>>=fun (o13:AC) =>
 Az.l1 (x.1,x.2.2,o13,0,x.2.1)>>=fun (o26:AC) =>
 if(o26 == 0#64)=true then
  some (1#64)
 else
  some o26
instance Az.w:AH Az (fun x r=>Fn Tryz.prog 125 [.slice .foreign (x.1.map AD.av),.agg (Bb.C x.2.1),.w x.2.2] (.w r)):=⟨by
 intro x r h
 rw[Az] at h
 try dsimp only
 refine Fn.of_lc mix Ya AI0 (by rfl) (flC (AQ _ AD.flat _) (flC (Bb.flatC _) (flC (.atom _) (flN)))) (.atom _) ?_
 simp -implicitDefEqProofs only[go_sem,Tryz.f125]
 exact AN⟩
end
section
theorem AIr:okF Tryz.f109=true:=by kernel_rfl
def DP (x:Aj × AC):Option (AC) :=
 Az (x.1.Edges,x.1.Stats,x.2)>>=fun r1 =>
 some r1
instance DP.w:AH DP (fun x r=>Fn Tryz.prog 109 [.agg (Aj.C x.1),.w x.2] (.w r)):=⟨by
 intro x r h
 rw[DP] at h
 try dsimp only
 refine Fn.of_lc mix AKO AIr (by rfl) (flC (Aj.flatC _) (flC (.atom _) (flN))) (.atom _) ?_
 simp -implicitDefEqProofs only[go_sem,Tryz.f109]
 exact AN⟩
end
section
@[go_sem] theorem AOg:lrp Tryz.prog 74 3=(10,[]):=by kernel_rfl
@[go_sem] theorem AO5:lrp Tryz.prog 74 5=(10,[]):=by kernel_rfl
theorem AJv:okF Tryz.f74=true:=by kernel_rfl
def Ei (x:Aj × AC × AC × List AB):Option (AC) :=
 DP (x.1,(x.2.1|||x.2.2.1))>>=fun r1 =>
 if(x.1.Kind == 2)=true then
  Ea (x.1,x.2.1,x.2.2.1,x.2.2.2)>>=fun r4 =>
  if r4=true then
   DP (x.1,x.2.1)>>=fun r7 =>
   DP (x.1,x.2.2.1)>>=fun r9 =>
   EI (r7,r9)>>=fun r11 =>
   EI (r1,r11)>>=fun r13 =>
   some r13
  else
   DP (x.1,x.2.1)>>=fun r15 =>
   DP (x.1,x.2.2.1)>>=fun r17 =>
   FY (r15,r17)>>=fun r19 =>
   EI (r1,r19)>>=fun r21 =>
   some r21
 else
  some r1
instance Ei.w:AH Ei (fun x r=>Fn Tryz.prog 74 [.agg (Aj.C x.1),.w x.2.1,.w x.2.2.1,.slice .foreign (x.2.2.2.map AB.av)] (.w r)):=⟨by
 intro x r h
 rw[Ei] at h
 try dsimp only
 refine Fn.of_lc mix AMN AJv (by rfl) (flC (Aj.flatC _) (flC (.atom _) (flC (.atom _) (flC (AQ _ AB.flat _) (flN))))) (.atom _) ?_
 simp -implicitDefEqProofs only[go_sem,Tryz.f74]
 exact AN⟩
end
section
@[go_sem] theorem AOx:lrp Tryz.prog 36 3=(15,[]):=by kernel_rfl
@[go_sem] theorem AOl:lrp Tryz.prog 36 4=(16,[]):=by kernel_rfl
theorem AKj:okF Tryz.f36=true:=by kernel_rfl
def Bw (x:Aj × AA):Option (AC) :=
 if((x.2.Kids.length:Int) != 2)=true then
  some (0#64)
 else
  (x.2.Kids[0]?)>>=fun (e2:AA) =>
  An e2>>=fun r4 =>
  (x.2.Kids[1]?)>>=fun (e6:AA) =>
  An e6>>=fun r8 =>
  Ei (x.1,r4,r8,x.2.Conj)>>=fun r10 =>
  Bw (x.1,e2)>>=fun r12 =>
  Bw (x.1,e6)>>=fun r14 =>
  EI (r12,r14)>>=fun r16 =>
  EI (r10,r16)>>=fun r18 =>
  some r18
 partial_fixpoint
theorem Bw.ws:PC Bw (fun x r=>Fn Tryz.prog 36 [.agg (Aj.C x.1),.agg (AA.C x.2)] (.w r)):=by
 refine Bw.partial_correctness _ ?_
 ·intro Nx Nc x r h
  have ABE:AH Nx _:=⟨Nc⟩
  refine Fn.of_lc mix ANQ AKj (by rfl) (flC (Aj.flatC _) (flC (AA.flatC _) (flN))) (.atom _) ?_
  simp -implicitDefEqProofs only[go_sem,Tryz.f36]
  exact AN
instance Bw.w:type_of% (AH.mk Bw.ws):=⟨Bw.ws⟩
end
section
def KG (e:AD):Bool:=e.Kind == 3 || e.Kind == 4
def Cp (l:List AD):AC:=l.foldl (fun s e=>if KG e=true then s|||e.Right else s) 0#64
theorem AAY (l:List AD):∀ s,l.foldl (fun s e=>if KG e=true then s|||e.Right else s) s=s|||Cp l:=by
 have:∀ (l:List AD) (s:AC),l.foldl (fun s e=>if KG e=true then s|||e.Right else s) s=s|||l.foldl (fun s e=>if KG e=true then s|||e.Right else s) 0#64:=by
  intro l
  induction l with
  | nil=>intro s;simp
  | cons x l ih =>
   intro s
   simp only[List.foldl_cons]
   split
   ·rw[ih (s|||x.Right),ih (0#64|||x.Right),BitVec.zero_or,BitVec.or_assoc]
   ·exact ih s
 exact this l
theorem Yj (x:AD) (l:List AD):Cp (x :: l)=(if KG x=true then x.Right else 0#64)|||Cp l:=by
 unfold Cp
 simp only[List.foldl_cons]
 rw[AAY]
 split <;> simp <;> rfl
theorem AAH (l:List AD) (i:Nat):(Cp l).getLsbD i=l.any fun e=>KG e&&e.Right.getLsbD i:=by
 induction l with
 | nil=>simp[Cp]
 | cons x l ih =>
  rw[Yj,BitVec.getLsbD_or,ih,List.any_cons]
  cases KG x <;> simp
theorem Mj (l:List AD) (hl:l.length<9223372036854775808):BX l=some (Cp l):=by
 have key:=Ic l (fun i (s:AC)=>BX.l0 (s,l,(l.length:Int),(i:Int))) (fun s l=>some (l.foldl (fun s e=>if KG e=true then s|||e.Right else s) s)) (fun s=>by
   show BX.l0 _=_
   rw[BX.l0,if_neg (dge (by dsimp only;omega))];rfl)
  (fun i s h ih=>by
   show BX.l0 _=_
   rw[BX.l0,if_pos (dlt (by dsimp only;omega))]
   dsimp only
   rw[Ag h]
   simp only[Option.bind_eq_bind,Option.bind_some,List.foldl_cons]
   rw[AU (by omega)]
   try dsimp only at ih
   rw[ih,ih]
   unfold KG
   cases h3:l[i].Kind == 3 <;> cases h4:l[i].Kind == 4 <;> simp) 0#64
 unfold BX
 have key':BX.l0 (0#64,l,(l.length:Int),0)=some (Cp l):=key
 rw[key'];rfl
def ANM (b:Bool):Lp Unit Bool:=bif b then .ret true else .brk ()
theorem Mm (l:List AD) (hl:l.length<9223372036854775808) (k:Nat) (hk:k<64):BW (l,(k:Int))=some ((Cp l).getLsbD k):=by
 have key:=Ic l (fun i (_:Unit)=>BW.l0 (l,(k:Int),(i:Int))) (fun _ l=>some (ANM (l.any fun e=>KG e&&e.Right.getLsbD k))) (fun s=>by
   show BW.l0 _=_
   rw[BW.l0,if_neg (dge (by dsimp only;omega))];rfl)
  (fun i s h ih=>by
   show BW.l0 _=_
   rw[BW.l0,if_pos (dlt (by dsimp only;omega))]
   dsimp only
   rw[Ag h]
   simp only[Option.bind_eq_bind,Option.bind_some]
   rw[AU (by omega)]
   have ih:=ih ()
   try dsimp only at ih
   rw[ih,Eb,DK _ _ hk,List.any_cons]
   simp only[Option.bind_some]
   generalize (l.drop (i+1)).any _=R
   have e:KG l[i]=(l[i].Kind == 3 || l[i].Kind == 4):=rfl
   rw[e]
   cases (l[i].Kind == 3) <;> cases (l[i].Kind == 4) <;> cases l[i].Right.getLsbD k <;> cases R <;> rfl) ()
 unfold BW
 have key':BW.l0 (l,(k:Int),0)=_:=key
 dsimp only
 rw[key',← AAH]
 simp only[Option.bind_eq_bind,Option.bind_some]
 cases (Cp l).getLsbD k <;> rfl
theorem Tv (l:List AD) (hl:l.length<9223372036854775808):Bv l=some (Cp l):=by
 have key:∀ n i,64 - i=n→i≤64→Bv.l0 (l,(((List.range i).filter fun j=>(Cp l).getLsbD j).map fun (j:Nat)=>(j:Int)),(i:Int))=some (Bf (Cp l)):=by
  intro n
  induction n with
  | zero =>
   intro i h1 h2
   obtain rfl:i=64:=by omega
   rw[Bv.l0,if_neg (dge (by dsimp only;omega))];rfl
  | succ n ih =>
   intro i h1 h2
   rw[Bv.l0,if_pos (dlt (by dsimp only;omega))]
   dsimp only
   rw[Mm l hl i (by omega)]
   simp only[Option.bind_eq_bind,Option.bind_some]
   have ih:=ih (i+1) (by omega) (by omega)
   rw[List.range_succ,List.filter_append] at ih
   rw[AU (by omega)]
   have hlen:(((List.range i).filter fun j=>(Cp l).getLsbD j).map fun (j:Nat)=>(j:Int)).length≤64:=by
    rw[List.length_map];exact Nat.le_trans (List.length_filter_le _ _) (by simp;omega)
   cases hb:(Cp l).getLsbD i with
   | true =>
    rw[if_pos rfl,Bp (by simp only[List.length_cons,List.length_nil];omega)]
    simp only[Option.bind_some]
    simp[hb] at ih ⊢
    exact ih
   | false =>
    rw[if_neg (by simp)]
    simp[hb] at ih ⊢
    exact ih
 unfold Bv
 have h:=key 64 0 (by omega) (by omega)
 have h':Bv.l0 (l,([]:List Int),0)=some (Bf (Cp l)):=h
 rw[h']
 simp only[Option.bind_eq_bind,Option.bind_some]
 have hml:(Bf (Cp l)).length≤64:=by
  unfold Bf
  rw[List.length_map];exact Nat.le_trans (List.length_filter_le _ _) (by simp)
 rw[JJ _ (by omega)]
 simp only[Option.bind_some]
 congr 1
 apply BitVec.eq_of_getLsbD_eq
 intro j hj
 rw[Qz _ j hj]
 unfold Bf
 rw[Bool.eq_iff_iff,List.any_eq_true]
 constructor
 ·rintro⟨x,hx,he⟩
  obtain⟨k,hk,rfl⟩:=List.mem_map.1 hx
  have he:=of_decide_eq_true he
  obtain rfl:k=j:=by omega
  exact(List.mem_filter.1 hk).2
 ·intro h
  exact⟨(j:Int),List.mem_map.2 ⟨j,List.mem_filter.2 ⟨by simpa using hj,h⟩,rfl⟩,by simp⟩
def Fp (rows:List AC) (s:AC) (n:AC) (i:Nat):AC:=if s.getLsbD i=true∧i<rows.length then Cz (n.toNat * (rows.getD i 0#64).toNat) else n
def Ii (set:AC) (n:AC) (p:AD × AC):AC:=if inS p.1.Uses set=true then Cz (n.toNat * p.2.toNat / 65536) else n
def KR (l:List AD) (st:Bb) (set:AC):AC:=Za 1#64 ((l.zip st.Sel).foldl (Ii set) ((List.range 64).foldl (Fp st.Rows (set&&&~~~Cp l)) 1#64))
theorem Pd (s:AC):CT s=some (Bf s):=by
 have key:∀ (l acc:List Int),acc.length+l.length≤1000000→CT.r0 (l,acc)=some (acc++l):=by
  intro l
  induction l with
  | nil=>intro acc _;rw[CT.r0];simp
  | cons x l ih =>
   intro acc h
   rw[CT.r0]
   dsimp only
   simp only[List.length_cons] at h
   rw[Bp (by simp only[List.length_cons,List.length_nil];omega)]
   simp only[Option.bind_eq_bind,Option.bind_some]
   rw[ih _ (by simp;omega)]
   simp
 unfold CT HQ
 have hml:(Bf s).length≤64:=by
  unfold Bf
  rw[List.length_map];exact Nat.le_trans (List.length_filter_le _ _) (by simp)
 simp only[Option.bind_eq_bind,Option.bind_some]
 rw[key _ _ (by simp;omega)];rfl
theorem TV (l:List AC) (hl:l.length<9223372036854775808):Bc l=some (l.foldl (fun n x=>Cz (n.toNat * x.toNat)) 1#64):=by
 have key:=Ic l (fun i (s:AC)=>Bc.l0 (s,l,(l.length:Int),(i:Int))) (fun s l=>some (l.foldl (fun n x=>Cz (n.toNat * x.toNat)) s)) (fun s=>by
   show Bc.l0 _=_
   rw[Bc.l0,if_neg (dge (by dsimp only;omega))];rfl)
  (fun i s h ih=>by
   show Bc.l0 _=_
   rw[Bc.l0,if_pos (dlt (by dsimp only;omega))]
   dsimp only
   rw[Ag h]
   simp only[Option.bind_eq_bind,Option.bind_some,Tn]
   rw[AU (by omega)]
   exact ih _) 1#64
 unfold Bc
 have key':Bc.l0 (1#64,l,(l.length:Int),0)=_:=key
 rw[key'];rfl
def Gl (rows:List AC) (e:Int):Option AC:=if e<(rows.length:Int) then AX rows e else none
theorem XJ (l:List AD) (st:Bb) (set:AC) (ms:List Int) (hm:∀ e∈ms,0≤e) (hl:ms.length≤1000000):Ax.l0 (([]:List AC),ms,(ms.length:Int),0,l,st,set)=some (ms.filterMap (Gl st.Rows)):=by
 have:=Fy ms (fun i acc=>acc.length≤i) (fun i (acc:List AC)=>Ax.l0 (acc,ms,(ms.length:Int),(i:Int),l,st,set)) (fun acc l=>some (acc++l.filterMap (Gl st.Rows)))
  (fun acc ha=>by
   show Ax.l0 _=_
   rw[Ax.l0,if_neg (dge (by dsimp only;omega))]
   simp)
  (fun i acc h ha ih2=>by
   show Ax.l0 _=_
   rw[Ax.l0,if_pos (dlt (by dsimp only;omega))]
   dsimp only
   rw[Ag h]
   simp only[Option.bind_eq_bind,Option.bind_some]
   rw[AU (by omega)]
   have h0:=hm _ (List.getElem_mem h)
   by_cases hx:ms[i]<(st.Rows.length:Int)
   ·rw[if_pos (dlt hx)]
    obtain⟨k,hk⟩:∃ k:Nat,ms[i]=k:=⟨ms[i].toNat,by omega⟩
    have hkl:k<st.Rows.length:=by omega
    rw[hk,Ag hkl]
    simp only[Option.bind_some]
    rw[Bp (by simp;omega)]
    simp only[Option.bind_some]
    have:=ih2 (acc++[st.Rows[k]]) (by simp;omega)
    try dsimp only at this
    rw[this,List.filterMap_cons]
    have e:Gl st.Rows (k:Int)=some st.Rows[k]:=by unfold Gl;rw[if_pos (by omega),Ag hkl]
    rw[e];simp
   ·rw[if_neg (dge hx)]
    have:=ih2 acc (by omega)
    try dsimp only at this
    rw[this,List.filterMap_cons]
    have e:Gl st.Rows ms[i]=none:=by unfold Gl;rw[if_neg hx]
    rw[e]) 0 [] (Nat.zero_le _) (by simp)
 rw[List.drop_zero,List.nil_append] at this
 exact this
theorem ABl (rows:List AC) (s:AC):∀ (is:List Nat) (n:AC),(((is.filter fun i=>s.getLsbD i).map fun (i:Nat)=>(i:Int)).filterMap (Gl rows)).foldl (fun n x=>Cz (n.toNat * x.toNat)) n=is.foldl (Fp rows s) n:=by
 intro is
 induction is with
 | nil=>intro n;rfl
 | cons i is ih =>
  intro n
  simp only[List.foldl_cons]
  cases hb:s.getLsbD i with
  | false =>
   rw[List.filter_cons_of_neg (by simp[hb]),ih]
   unfold Fp;rw[hb];simp
  | true =>
   rw[List.filter_cons_of_pos hb,List.map_cons,List.filterMap_cons]
   by_cases hl:i<rows.length
   ·have e:Gl rows (i:Int)=some rows[i]:=by unfold Gl;rw[if_pos (by omega),Ag hl]
    rw[e]
    simp only[List.foldl_cons,ih]
    have e2:Fp rows s n i=Cz (n.toNat * rows[i].toNat):=by
     unfold Fp;rw[if_pos ⟨hb,hl⟩];simp[List.getD_eq_getElem?_getD,List.getElem?_eq_getElem hl]
    rw[e2]
   ·have e:Gl rows (i:Int)=none:=by unfold Gl;rw[if_neg (by omega)]
    rw[e]
    simp only[ih]
    have e2:Fp rows s n i=n:=by unfold Fp;rw[if_neg (fun h=>hl h.2)]
    rw[e2]
theorem Nj (set:AC) (l:List AD) (sel:List AC) (i:Nat) (h:sel.length≤i) (n:AC):((l.drop i).zip (sel.drop i)).foldl (Ii set) n=n:=by
 rw[List.drop_eq_nil_of_le h,List.zip_nil_right];rfl
theorem XZ (l:List AD) (st:Bb) (set:AC) (n:AC) (hl:l.length<9223372036854775808):Ax.l1 (n,(l.length:Int),0,l,st,set)=some ((l.zip st.Sel).foldl (Ii set) n):=by
 have key:∀ k i n,l.length - i=k→i≤l.length→Ax.l1 (n,(l.length:Int),(i:Int),l,st,set)=some (((l.drop i).zip (st.Sel.drop i)).foldl (Ii set) n):=by
  intro k
  induction k with
  | zero =>
   intro i n h1 h2
   obtain rfl:i=l.length:=by omega
   rw[Ax.l1,if_neg (dge (by dsimp only;omega)),List.drop_length];rfl
  | succ k ih =>
   intro i n h1 h2
   have h:i<l.length:=by omega
   rw[Ax.l1,if_pos (dlt (by dsimp only;omega))]
   dsimp only
   unfold GQ
   dsimp only
   rw[Ag h,AU (by omega),List.drop_eq_getElem_cons h]
   simp only[Option.bind_eq_bind,Option.bind_some]
   by_cases hs:i<st.Sel.length
   ·rw[if_pos (dlt (by omega)),List.drop_eq_getElem_cons hs,Ag hs]
    have e:Df (l[i].Uses,set)=some (inS l[i].Uses set):=rfl
    rw[e]
    simp only[Option.bind_some,Yl,List.zip_cons_cons,List.foldl_cons]
    rw[ih (i+1) _ (by omega) (by omega),ih (i+1) _ (by omega) (by omega)]
    unfold Ii
    cases inS l[i].Uses set <;> rfl
   ·rw[if_neg (dge (by omega))]
    simp only[Option.bind_some]
    rw[if_neg (by simp),ih (i+1) _ (by omega) (by omega),Nj _ _ _ _ (by omega),List.drop_eq_nil_of_le (show st.Sel.length≤i by omega),List.zip_nil_right];rfl
 exact key l.length 0 n (by omega) (by omega)
theorem AAW (s:AC):∀ e∈Bf s,0≤e:=by
 intro e he
 obtain⟨k,_,rfl⟩:=List.mem_map.1 he
 omega
theorem AGu (s:AC):(Bf s).length≤64:=by
 unfold Bf
 rw[List.length_map];exact Nat.le_trans (List.length_filter_le _ _) (by simp)
theorem Xm (l:List AD) (st:Bb) (set:AC) (hl:l.length<9223372036854775808):Ax (l,st,set)=some (KR l st set):=by
 unfold Ax
 dsimp only
 rw[Mj l hl]
 simp only[Option.bind_eq_bind,Option.bind_some,Pd]
 have hml:=AGu (set&&&~~~Cp l)
 rw[XJ l st set _ (AAW _) (by omega)]
 simp only[Option.bind_some]
 have hfl:((Bf (set&&&~~~Cp l)).filterMap (Gl st.Rows)).length≤64:=Nat.le_trans (List.length_filterMap_le _ _) hml
 rw[TV _ (by omega)]
 simp only[Option.bind_some]
 rw[XZ l st set _ hl]
 simp only[Option.bind_some]
 unfold KR Bf
 rw[ABl]
theorem XT (l:List AD) (st:Bb) (set:AC) (hl:l.length<9223372036854775808):Az.l0 (l,set,1#64,0,st)=some ((List.range 64).foldl (Fp st.Rows (set&&&~~~Cp l)) 1#64):=by
 have past:∀ (k i:Nat) (n:AC),st.Rows.length≤i→(List.range' i k).foldl (Fp st.Rows (set&&&~~~Cp l)) n=n:=by
  intro k
  induction k with
  | zero=>intro i n _;rfl
  | succ k ih =>
   intro i n h
   rw[List.range'_succ,List.foldl_cons]
   have:Fp st.Rows (set&&&~~~Cp l) n i=n:=by unfold Fp;rw[if_neg (by omega)]
   rw[this];exact ih (i+1) n (by omega)
 have key:∀ (k i:Nat) (n:AC),64 - i=k→i≤64→Az.l0 (l,set,n,(i:Int),st)=some ((List.range' i k).foldl (Fp st.Rows (set&&&~~~Cp l)) n):=by
  intro k
  induction k with
  | zero =>
   intro i n h1 h2
   obtain rfl:i=64:=by omega
   rw[Az.l0,if_neg (dge (by dsimp only;omega))];rfl
  | succ k ih =>
   intro i n h1 h2
   have hi:i<64:=by omega
   rw[Az.l0,if_pos (dlt (by dsimp only;omega))]
   dsimp only
   by_cases hs:i<st.Rows.length
   ·rw[if_pos (dlt (by omega)),Eb,DK _ _ hi,Mm l hl i hi,Ag hs,AU (by omega),List.range'_succ,List.foldl_cons]
    simp only[Option.bind_eq_bind,Option.bind_some,Mc]
    rw[ih (i+1) _ (by omega) (by omega),ih (i+1) _ (by omega) (by omega)]
    have e:Fp st.Rows (set&&&~~~Cp l) n i=if set.getLsbD i=true then(if(Cp l).getLsbD i=true then n else Cz (n.toNat * st.Rows[i].toNat)) else n:=by
     unfold Fp
     simp only[BitVec.getLsbD_and,BitVec.getLsbD_not,hi,decide_true,Bool.true_and,hs,and_true]
     have eg:st.Rows.getD i 0#64=st.Rows[i]:=by simp[List.getD_eq_getElem?_getD,List.getElem?_eq_getElem hs]
     rw[eg]
     cases set.getLsbD i <;> cases (Cp l).getLsbD i <;> simp
    rw[e]
    cases set.getLsbD i <;> cases (Cp l).getLsbD i <;> simp
   ·rw[if_neg (dge (by omega)),past _ _ _ (by omega)]
 have:=key 64 0 1#64 (by omega) (by omega)
 rw[List.range_eq_range'];exact this
theorem XV (l:List AD) (st:Bb) (set:AC) (n:AC) (hl:l.length<9223372036854775808):Az.l1 (l,set,n,0,st)=some ((l.zip st.Sel).foldl (Ii set) n):=by
 have key:∀ k i n,l.length - i=k→i≤l.length→Az.l1 (l,set,n,(i:Int),st)=some (((l.drop i).zip (st.Sel.drop i)).foldl (Ii set) n):=by
  intro k
  induction k with
  | zero =>
   intro i n h1 h2
   obtain rfl:i=l.length:=by omega
   rw[Az.l1,if_neg (dge (by dsimp only;omega)),List.drop_length];rfl
  | succ k ih =>
   intro i n h1 h2
   have h:i<l.length:=by omega
   rw[Az.l1,if_pos (dlt (by dsimp only;omega))]
   dsimp only
   by_cases hs:i<st.Sel.length
   ·rw[if_pos (dlt (by omega)),Ag h,Ag hs,AU (by omega),List.drop_eq_getElem_cons h,List.drop_eq_getElem_cons hs]
    simp only[Option.bind_eq_bind,Option.bind_some,JI,Vk,List.zip_cons_cons,List.foldl_cons]
    rw[ih (i+1) _ (by omega) (by omega),ih (i+1) _ (by omega) (by omega)]
    unfold Ii
    cases inS l[i].Uses set <;> rfl
   ·rw[if_neg (dge (by omega)),Nj _ _ _ _ (by omega)]
 exact key l.length 0 n (by omega) (by omega)
theorem XO (l:List AD) (st:Bb) (set:AC) (hl:l.length<9223372036854775808):Az (l,st,set)=some (KR l st set):=by
 unfold Az KR
 dsimp only
 rw[XT l st set hl]
 simp only[Option.bind_eq_bind,Option.bind_some]
 rw[XV l st set _ hl]
 simp only[Option.bind_some]
 generalize List.foldl (Ii set) _ _=z
 unfold Za
 by_cases h:z=0#64
 ·subst h;decide
 ·rw[if_neg (by simpa using h)]
  by_cases h1:z > 1#64
  ·rw[if_pos h1]
  ·rw[if_neg h1]
   congr 1
   apply BitVec.eq_of_toNat_eq
   have h1:¬ (1#64).toNat<z.toNat:=h1
   have h2:z.toNat≠0:=fun e=>h (BitVec.eq_of_toNat_eq (by simpa using e))
   simp only[BitVec.toNat_ofNat] at h1 ⊢;omega
end
section
def RH (a b:AC) (p:AB):Option AR :=
 if p.Kind=2∧p.Op=1∧p.A.Kind=1∧p.B.Kind=1 then
  (if AY a p.A.Table=true∧AY b p.B.Table=true then some ⟨p.A,p.B⟩ else if AY a p.B.Table=true∧AY b p.A.Table=true then some ⟨p.B,p.A⟩ else none)
 else none
theorem HX {a b:AC} {p:AB} (h:¬ (p.Kind=2∧p.Op=1∧p.A.Kind=1∧p.B.Kind=1)):RH a b p=none:=if_neg h
theorem Wc {a b:AC} {p:AB} (h:p.Kind=2∧p.Op=1∧p.A.Kind=1∧p.B.Kind=1):RH a b p=(bif AY a p.A.Table&&AY b p.B.Table then some ⟨p.A,p.B⟩ else bif AY a p.B.Table&&AY b p.A.Table then some ⟨p.B,p.A⟩ else none):=by
 unfold RH
 rw[if_pos h]
 cases AY a p.A.Table <;> cases AY b p.B.Table <;> cases AY a p.B.Table <;> cases AY b p.A.Table <;> simp
def UN (conj:List AB) (a b:AC):List AR:=conj.filterMap (RH a b)
theorem Zw (conj:List AB) (a b:AC) (hl:conj.length≤1000000000):BT (conj,a,b)=some (UN conj a b):=by
 have key:=Fy conj (fun i acc=>acc.length≤i) (fun i (acc:List AR)=>BT.l0 (a,b,acc,conj,(conj.length:Int),(i:Int))) (fun acc l=>some (acc++l.filterMap (RH a b)))
  (fun acc ha=>by
   show BT.l0 _=_
   rw[BT.l0,if_neg (dge (by dsimp only;omega))]
   simp)
  (fun i acc h ha ih=>by
   show BT.l0 _=_
   rw[BT.l0,if_pos (dlt (by dsimp only;omega))]
   dsimp only
   rw[Ag h,List.filterMap_cons]
   simp only[Option.bind_eq_bind,Option.bind_some,AAZ]
   rw[AU (by omega)]
   try dsimp only at ih
   have i0:=ih acc (by omega)
   have i1:=fun t=>ih (acc++[t]) (by simp;omega)
   have rm:∀ t:AR,room 80 acc [t]=some (acc++[t]):=fun t=>Bp (by simp;omega)
   simp only[i0,i1,rm,Option.bind_some]
   by_cases c1:conj[i].Kind=2
   ·by_cases c2:conj[i].Op=1
    ·by_cases c3:conj[i].A.Kind=1
     ·by_cases c4:conj[i].B.Kind=1
      ·rw[if_neg (by simpa using c1),if_neg (by simpa using c2),if_neg (by simpa using c3),if_neg (by simpa using c4),Wc ⟨c1,c2,c3,c4⟩]
       cases AY a conj[i].A.Table <;> cases AY b conj[i].B.Table <;> cases AY a conj[i].B.Table <;> cases AY b conj[i].A.Table <;> simp
      ·rw[if_neg (by simpa using c1),if_neg (by simpa using c2),if_neg (by simpa using c3),if_pos (by simpa using c4),HX (fun h=>c4 h.2.2.2)]
     ·rw[if_neg (by simpa using c1),if_neg (by simpa using c2),if_pos (by simpa using c3),HX (fun h=>c3 h.2.2.1)]
    ·rw[if_neg (by simpa using c1),if_pos (by simpa using c2),HX (fun h=>c2 h.2.1)]
   ·rw[if_pos (by simpa using c1),HX (fun h=>c1 h.1)]) 0 [] (Nat.zero_le _) (by simp)
 unfold BT
 rw[List.drop_zero,List.nil_append] at key
 have key':BT.l0 (a,b,([]:List AR),conj,(conj.length:Int),0)=some (UN conj a b):=key
 dsimp only
 rw[key'];rfl
theorem XS (conj:List AB) (a b:AC) (hl:conj.length≤1000000000):BJ (conj,a,b)=some (UN conj a b):=by
 have key:=Fy conj (fun i acc=>acc.length≤i) (fun i (acc:List AR)=>BJ.l0 (conj,a,b,acc,(i:Int))) (fun acc l=>some (acc++l.filterMap (RH a b)))
  (fun acc ha=>by
   show BJ.l0 _=_
   rw[BJ.l0,if_neg (dge (by dsimp only;omega))]
   simp)
  (fun i acc h ha ih=>by
   show BJ.l0 _=_
   rw[BJ.l0,if_pos (dlt (by dsimp only;omega))]
   dsimp only
   rw[Ag h,List.filterMap_cons]
   simp only[Option.bind_eq_bind,Option.bind_some,Eb]
   rw[AU (by omega)]
   try dsimp only at ih
   have i0:=ih acc (by omega)
   have i1:=fun t=>ih (acc++[t]) (by simp;omega)
   have rm:∀ t:AR,room 80 acc [t]=some (acc++[t]):=fun t=>Bp (by simp;omega)
   simp only[i0,i1,rm,Option.bind_some]
   by_cases c1:conj[i].Kind=2
   ·by_cases c2:conj[i].Op=1
    ·by_cases c3:conj[i].A.Kind=1
     ·by_cases c4:conj[i].B.Kind=1
      ·rw[if_neg (by simpa using c1),if_neg (by simpa using c2),if_neg (by simpa using c3),if_neg (by simpa using c4),Wc ⟨c1,c2,c3,c4⟩]
       cases AY a conj[i].A.Table <;> cases AY b conj[i].B.Table <;> cases AY a conj[i].B.Table <;> cases AY b conj[i].A.Table <;> simp
      ·rw[if_neg (by simpa using c1),if_neg (by simpa using c2),if_neg (by simpa using c3),if_pos (by simpa using c4),HX (fun h=>c4 h.2.2.2)]
     ·rw[if_neg (by simpa using c1),if_neg (by simpa using c2),if_pos (by simpa using c3),HX (fun h=>c3 h.2.2.1)]
    ·rw[if_neg (by simpa using c1),if_pos (by simpa using c2),HX (fun h=>c2 h.2.1)]
   ·rw[if_pos (by simpa using c1),HX (fun h=>c1 h.1)]) 0 [] (Nat.zero_le _) (by simp)
 unfold BJ
 rw[List.drop_zero,List.nil_append] at key
 have key':BJ.l0 (conj,a,b,([]:List AR),0)=some (UN conj a b):=key
 dsimp only
 rw[key'];rfl
def ML (k:Int) (l:List AD) (a b:AC) (conj:List AB):Bool:=k == 2&&decide (0<(UN conj (a&&&~~~Cp l) (b&&&~~~Cp l)).length)
def Ap (k:Int) (l:List AD) (st:Bb) (a b:AC) (conj:List AB):AC :=
 if k=2 then(if ML k l a b conj=true then Cz ((KR l st a).toNat+(KR l st b).toNat+(KR l st (a|||b)).toNat) else Cz ((KR l st a).toNat * (KR l st b).toNat+(KR l st (a|||b)).toNat)) else KR l st (a|||b)
section
variable (m:Ae) (r:Aj) (a b:AC) (conj:List AB)
theorem XR (hE:m.Edges.length<9223372036854775808) (hl:conj.length≤1000000000):Eo (m,a,b,conj)=some (ML m.Kind m.Edges a b conj):=by
 unfold Eo ML
 dsimp only
 rw[Mj _ hE]
 simp only[Option.bind_eq_bind,Option.bind_some,Zw _ _ _ hl]
 by_cases h:m.Kind=2
 ·rw[if_pos (by simpa using h)]
  simp[h]
 ·rw[if_neg (by simpa using h)]
  simp[h]
theorem Vu (hE:r.Edges.length<9223372036854775808) (hl:conj.length≤1000000000):Ea (r,a,b,conj)=some (ML r.Kind r.Edges a b conj):=by
 unfold Ea ML
 dsimp only
 rw[Tv _ hE]
 simp only[Option.bind_eq_bind,Option.bind_some,XS _ _ _ hl]
 by_cases h:r.Kind=2
 ·rw[if_pos (by simpa using h)]
  simp[h]
 ·rw[if_neg (by simpa using h)]
  simp[h]
theorem Qq (m n:Nat):Cz (n+(Cz m).toNat)=Cz (m+n):=by rw[Nat.add_comm,TQ]
theorem Yo (hE:m.Edges.length<9223372036854775808) (hl:conj.length≤1000000000):EU (m,a,b,conj)=some (Ap m.Kind m.Edges m.Stats a b conj):=by
 unfold EU GR DY Ap
 dsimp only
 simp -implicitDefEqProofs only[Xm _ _ _ hE,XR m a b conj hE hl,Option.bind_eq_bind,Option.bind_some]
 by_cases h:m.Kind=2
 ·rw[if_neg (by simpa using h),if_pos h]
  cases ML m.Kind m.Edges a b conj with
  | true =>
   simp -implicitDefEqProofs only[if_true,Option.bind_some]
   rw[if_pos (by decide),Od _ (by simp)]
   simp -implicitDefEqProofs only[Option.bind_some]
   congr 2;simp[OC];omega
  | false =>
   simp -implicitDefEqProofs only[Bool.false_eq_true,if_false,Option.bind_some]
   rw[if_neg (by decide),if_pos (by decide),Tn]
   simp -implicitDefEqProofs only[Option.bind_some]
   rw[Od _ (by simp)]
   simp -implicitDefEqProofs only[Option.bind_some]
   congr 1
   rw[← TQ]
   simp[OC]
 ·rw[if_pos (by simpa using h),if_neg h]
  simp -implicitDefEqProofs only[Option.bind_some]
  rw[if_neg (by decide),if_neg (by decide)]
theorem Xo (hE:r.Edges.length<9223372036854775808) (hl:conj.length≤1000000000):Ei (r,a,b,conj)=some (Ap r.Kind r.Edges r.Stats a b conj):=by
 unfold Ei DP Ap
 dsimp only
 simp -implicitDefEqProofs only[XO _ _ _ hE,Vu r a b conj hE hl,Option.bind_eq_bind,Option.bind_some]
 by_cases h:r.Kind=2
 ·rw[if_pos (by simpa using h),if_pos h]
  cases ML r.Kind r.Edges a b conj with
  | true =>
   simp -implicitDefEqProofs only[if_true,KF,Option.bind_some,Qq]
  | false =>
   simp -implicitDefEqProofs only[Bool.false_eq_true,if_false,Mc,KF,Option.bind_some,Qq]
 ·rw[if_neg (by simpa using h),if_neg h]
end
def Be (f:AC→AC→List AB→AC):AA→AC
 | ⟨_,_,[x,y],c,_⟩=>Cz ((Be f x).toNat+(Be f y).toNat+(f (AS x) (AS y) c).toNat)
 | _=>0#64
theorem Mq (f:AC→AC→List AB→AC) {t x y:AA} (h:t.Kids=[x,y]):Be f t=Cz ((Be f x).toNat+(Be f y).toNat+(f (AS x) (AS y) t.Conj).toNat):=by
 obtain⟨a,b,ks,c,d⟩:=t
 dsimp only at h
 subst h
 rw[Be]
theorem OL (f:AC→AC→List AB→AC) {t:AA} (h:t.Kids.length≠2):Be f t=0#64:=by
 obtain⟨a,b,ks,c,d⟩:=t
 dsimp only at h
 rw[Be]
 rintro a' b' x y c' d' e
 injection e with _ _ e
 subst e
 simp at h
theorem EV {t:AA} (h:t.Kids.length=2):∃ x y,t.Kids=[x,y]:=by
 match hk:t.Kids with
 | [x,y]=>exact⟨x,y,rfl⟩
 | []=>rw[hk] at h;cases h
 | [_]=>rw[hk] at h;cases h
 | _ :: _ :: _ :: _=>rw[hk] at h;simp at h
theorem LM (r:Aj) (hE:r.Edges.length<9223372036854775808) (t:AA):t.size≤1000000000→Bw (r,t)=some (Be (Ap r.Kind r.Edges r.Stats) t):=by
 induction t using AA.induct with
 | h t ih =>
  intro hsz
  rw[Bw]
  dsimp only
  by_cases h:t.Kids.length=2
  ·obtain⟨x,y,hk⟩:=EV h
   have hx:x∈t.Kids:=by rw[hk];simp
   have hy:y∈t.Kids:=by rw[hk];simp
   have hcl:=Kc t
   have hxs:=Cc hx
   have hys:=Cc hy
   rw[if_neg (by simp[h])]
   rw[Mq _ hk]
   simp -implicitDefEqProofs only[hk,List.getElem?_cons_zero,List.getElem?_cons_succ,Option.bind_eq_bind,Option.bind_some]
   rw[Cm x (by omega),Cm y (by omega)]
   simp -implicitDefEqProofs only[Option.bind_some]
   rw[Xo r _ _ _ hE (by omega)]
   simp -implicitDefEqProofs only[Option.bind_some]
   rw[ih x hx (by omega),ih y hy (by omega)]
   simp -implicitDefEqProofs only[Option.bind_some,KF]
   rw[Qq]
  ·rw[if_pos (by simp;omega),OL _ h]
end
section
def Dy (a b:AC):Int:=if a.toNat<b.toNat then -1 else if b.toNat<a.toNat then 1 else 0
def lex (c d:Int):Int:=if c=0 then d else c
abbrev Gx:=AC→AC→List AB→AC
def Ch (f:Gx):AA→AA→Int
 | ⟨k,t,[x,y],c,h⟩,b=>lex (Dy (Be f ⟨k,t,[x,y],c,h⟩) (Be f b)) (match b.Kids with
  | [u,v]=>lex (Dy (AS x) (AS u)) (lex (Ch f x u) (Ch f y v))
  | _=>1)
 | a,b=>lex (Dy (Be f a) (Be f b)) (if b.Kids.length=2 then -1 else Dy (AS a) (AS b))
theorem Fq (f:Gx) {a b x y u v:AA} (ha:a.Kids=[x,y]) (hb:b.Kids=[u,v]):Ch f a b=lex (Dy (Be f a) (Be f b)) (lex (Dy (AS x) (AS u)) (lex (Ch f x u) (Ch f y v))):=by
 obtain⟨a1,a2,ks,a3,a4⟩:=a
 dsimp only at ha
 subst ha
 rw[Ch,hb]
theorem HT (f:Gx) {a b x y:AA} (ha:a.Kids=[x,y]) (hb:b.Kids.length≠2):Ch f a b=lex (Dy (Be f a) (Be f b)) 1:=by
 obtain⟨a1,a2,ks,a3,a4⟩:=a
 dsimp only at ha
 subst ha
 rw[Ch]
 congr 1
 split
 ·rename_i h;rw[h] at hb;simp at hb
 ·rfl
theorem Eg (f:Gx) {a b:AA} (ha:a.Kids.length≠2):Ch f a b=lex (Dy (Be f a) (Be f b)) (if b.Kids.length=2 then -1 else Dy (AS a) (AS b)):=by
 obtain⟨a1,a2,ks,a3,a4⟩:=a
 dsimp only at ha
 rw[Ch]
 rintro a' b' x y c' d' e
 injection e with _ _ e
 subst e
 simp at ha
def Tri (p q r:Int):Prop:=(p≤0→q≤0→r≤0∧(p<0∨q<0→r<0))∧(0≤p→0≤q→0≤r∧(0<p∨0<q→0<r))
theorem Tri.lex {p q r p' q' r':Int} (h:Tri p q r) (k:Tri p' q' r'):Tri (lex p p') (lex q q') (lex r r'):=by
 unfold Tri G.lex at *
 split <;> split <;> split <;> omega
theorem JK (a b c:AC):Tri (Dy a b) (Dy b c) (Dy a c):=by
 unfold Tri Dy
 split <;> split <;> split <;> (try split) <;> (try split) <;> (try split) <;> omega
theorem MB (a b:AC):Dy b a = - Dy a b:=by
 unfold Dy
 split <;> split <;> (try split) <;> omega
theorem Ke {c d c' d':Int} (h:c' = - c) (k:d' = - d):lex c' d' = - lex c d:=by
 unfold lex
 split <;> split <;> omega
theorem TB (f:Gx):∀ (n:Nat) (a b:AA),a.size≤n→b.size≤n→Ch f b a = - Ch f a b:=by
 intro n
 induction n with
 | zero=>intro a b h;have:=LE a;omega
 | succ n ih =>
  intro a b h1 h2
  by_cases ha:a.Kids.length=2
  ·obtain⟨x,y,hx⟩:=EV ha
   by_cases hb:b.Kids.length=2
   ·obtain⟨u,v,hu⟩:=EV hb
    have e1:=Cc (t:=a) (y:=x) (by rw[hx];simp)
    have e2:=Cc (t:=a) (y:=y) (by rw[hx];simp)
    have e3:=Cc (t:=b) (y:=u) (by rw[hu];simp)
    have e4:=Cc (t:=b) (y:=v) (by rw[hu];simp)
    rw[Fq f hx hu,Fq f hu hx]
    exact Ke (MB _ _) (Ke (MB _ _) (Ke (ih _ _ (by omega) (by omega)) (ih _ _ (by omega) (by omega))))
   ·rw[HT f hx hb,Eg f hb,if_pos ha]
    exact Ke (MB _ _) rfl
  ·by_cases hb:b.Kids.length=2
   ·obtain⟨u,v,hu⟩:=EV hb
    rw[HT f hu ha,Eg f ha,if_pos hb]
    exact Ke (MB _ _) rfl
   ·rw[Eg f ha,Eg f hb,if_neg ha,if_neg hb]
    exact Ke (MB _ _) (MB _ _)
theorem AIv (f:Gx):∀ (n:Nat) (a b c:AA),a.size≤n→b.size≤n→c.size≤n→Tri (Ch f a b) (Ch f b c) (Ch f a c):=by
 intro n
 induction n with
 | zero=>intro a b c h;have:=LE a;omega
 | succ n ih =>
  intro a b c h1 h2 h3
  by_cases ha:a.Kids.length=2
  ·obtain⟨x,y,hx⟩:=EV ha
   by_cases hb:b.Kids.length=2
   ·obtain⟨u,v,hu⟩:=EV hb
    by_cases hc:c.Kids.length=2
    ·obtain⟨w,z,hw⟩:=EV hc
     have e1:=Cc (t:=a) (y:=x) (by rw[hx];simp)
     have e2:=Cc (t:=a) (y:=y) (by rw[hx];simp)
     have e3:=Cc (t:=b) (y:=u) (by rw[hu];simp)
     have e4:=Cc (t:=b) (y:=v) (by rw[hu];simp)
     have e5:=Cc (t:=c) (y:=w) (by rw[hw];simp)
     have e6:=Cc (t:=c) (y:=z) (by rw[hw];simp)
     rw[Fq f hx hu,Fq f hu hw,Fq f hx hw]
     exact(JK _ _ _).lex ((JK _ _ _).lex ((ih _ _ _ (by omega) (by omega) (by omega)).lex (ih _ _ _ (by omega) (by omega) (by omega))))
    ·rw[Fq f hx hu,HT f hu hc,HT f hx hc]
     refine(JK _ _ _).lex ?_
     unfold Tri;omega
   ·by_cases hc:c.Kids.length=2
    ·obtain⟨w,z,hw⟩:=EV hc
     rw[HT f hx hb,Eg f hb,if_pos hc,Fq f hx hw]
     refine(JK _ _ _).lex ?_
     unfold Tri;omega
    ·rw[HT f hx hb,Eg f hb,if_neg hc,HT f hx hc]
     refine(JK _ _ _).lex ?_
     unfold Tri;omega
  ·by_cases hb:b.Kids.length=2
   ·obtain⟨u,v,hu⟩:=EV hb
    by_cases hc:c.Kids.length=2
    ·obtain⟨w,z,hw⟩:=EV hc
     rw[Eg f ha,if_pos hb,Fq f hu hw,Eg f ha,if_pos hc]
     refine(JK _ _ _).lex ?_
     unfold Tri;omega
    ·rw[Eg f ha,if_pos hb,HT f hu hc,Eg f ha,if_neg hc]
     refine(JK _ _ _).lex ?_
     unfold Tri;omega
   ·by_cases hc:c.Kids.length=2
    ·rw[Eg f ha,if_neg hb,Eg f hb,if_pos hc,Eg f ha,if_pos hc]
     refine(JK _ _ _).lex ?_
     unfold Tri;omega
    ·rw[Eg f ha,if_neg hb,Eg f hb,if_neg hc,Eg f ha,if_neg hc]
     exact(JK _ _ _).lex (JK _ _ _)
theorem VU (a b:AC):Dy a b<0 ↔ a<b:=by
 unfold Dy
 have:a<b ↔ a.toNat<b.toNat:=Iff.rfl
 rw[this]
 split
 ·simp;omega
 ·split <;> simp <;> omega
theorem HW (a b:AC):Dy a b=0 ↔ a=b:=by
 unfold Dy
 rw[← BitVec.toNat_inj]
 split
 ·simp;omega
 ·split <;> simp <;> omega
end
section
theorem AM7:okF Tryz.f9=true:=by kernel_rfl
def Hx (x:Ae):Option (Bool) :=
 if(decide ((x.Edges.length:Int)≤60))=true then
  if(decide ((x.Stats.Rows.length:Int)≤100))=true then
   some (decide ((x.Stats.Sel.length:Int)≤100))
  else
   some false
 else
  some false
instance Hx.w:AH Hx (fun x r=>Fn Tryz.prog 9 [.agg (Ae.C x)] (.bool r)):=⟨by
 intro x r h
 rw[Hx] at h
 try dsimp only
 refine Fn.of_lc mix AOZ AM7 (by rfl) (flC (Ae.flatC _) (flN)) (.atom _) ?_
 simp -implicitDefEqProofs only[go_sem,Tryz.f9]
 exact AN⟩
end
section
structure AAt (f:Gx) (l:List AA) (k:Nat):Prop where
 lt:k<l.length
 all:∀ j (h:j<l.length),Ch f l[k] l[j]≤0
 prev:∀ j (h:j<l.length),j<k→Ch f l[k] l[j]<0
theorem Zd (m:Ae):∃ b,Hx m=some b∧(b=true→m.Edges.length≤60∧m.Stats.Rows.length≤100∧m.Stats.Sel.length≤100):=by
 unfold Hx
 by_cases h1:(m.Edges.length:Int)≤60
 ·rw[if_pos (by simpa using h1)]
  by_cases h2:(m.Stats.Rows.length:Int)≤100
  ·rw[if_pos (by simpa using h2)]
   refine⟨_,rfl,fun h=>⟨by omega,by omega,by have:=of_decide_eq_true h;omega⟩⟩
  ·rw[if_neg (by simpa using h2)]
   exact⟨_,rfl,fun h=>by cases h⟩
 ·rw[if_neg (by simpa using h1)]
  exact⟨_,rfl,fun h=>by cases h⟩
end
section
@[go_sem] theorem APa:lrp Tryz.prog 37 1=(7,[]):=by kernel_rfl
@[go_sem] theorem AOs:lrp Tryz.prog 37 2=(8,[]):=by kernel_rfl
@[go_sem] theorem APY:lrp Tryz.prog 37 6=(6,[]):=by kernel_rfl
@[go_sem] theorem AOz:lrp Tryz.prog 37 7=(12,[]):=by kernel_rfl
@[go_sem] theorem AN6:lrp Tryz.prog 37 10=(10,[]):=by kernel_rfl
@[go_sem] theorem ANx:lrp Tryz.prog 37 12=(24,[]):=by kernel_rfl
theorem AJf:okF Tryz.f37=true:=by kernel_rfl
def DL (x:Aj × AA × AA):Option (Bool) :=
 Bw (x.1,x.2.1)>>=fun r1 =>
 Bw (x.1,x.2.2)>>=fun r3 =>
 if(r1 != r3)=true then
  Bw (x.1,x.2.1)>>=fun r6 =>
  Bw (x.1,x.2.2)>>=fun r8 =>
  some (decide (r6<r8))
 else
  if((x.2.1.Kids.length:Int) != 2)=true then
   if((x.2.2.Kids.length:Int) == 2)=true then
    some ((x.2.2.Kids.length:Int) == 2)
   else
    An x.2.1>>=fun r13 =>
    An x.2.2>>=fun r15 =>
    some (decide (r13<r15))
  else
   if((x.2.2.Kids.length:Int) != 2)=true then
    some ((x.2.2.Kids.length:Int) == 2)
   else
    (x.2.1.Kids[0]?)>>=fun (e19:AA) =>
    An e19>>=fun r21 =>
    (x.2.2.Kids[0]?)>>=fun (e23:AA) =>
    An e23>>=fun r25 =>
    if(r21 != r25)=true then
     some (decide (r21<r25))
    else
     DL (x.1,e19,e23)>>=fun r28 =>
     if r28=true then
      some true
     else
      DL (x.1,e23,e19)>>=fun r31 =>
      if r31=true then
       some false
      else
       (x.2.1.Kids[1]?)>>=fun (e34:AA) =>
       (x.2.2.Kids[1]?)>>=fun (e36:AA) =>
       DL (x.1,e34,e36)>>=fun r38 =>
       some r38
 partial_fixpoint
theorem DL.ws:PC DL (fun x r=>Fn Tryz.prog 37 [.agg (Aj.C x.1),.agg (AA.C x.2.1),.agg (AA.C x.2.2)] (.bool r)):=by
 refine DL.partial_correctness _ ?_
 ·intro Ue Tc x r h
  have AHB:AH Ue _:=⟨Tc⟩
  refine Fn.of_lc mix AMQ AJf (by rfl) (flC (Aj.flatC _) (flC (AA.flatC _) (flC (AA.flatC _) (flN)))) (.atom _) ?_
  simp -implicitDefEqProofs only[go_sem,Tryz.f37]
  exact AN
instance DL.w:type_of% (AH.mk DL.ws):=⟨DL.ws⟩
end
section
@[go_sem] theorem APA:lrp Tryz.prog 57 8=(10,[]):=by kernel_rfl
theorem AKf:okF Tryz.f57=true:=by kernel_rfl
def Ar.l1 (x:List AA × Int × Bool × Int × Aj):Option (Bool) :=
 if(decide (x.2.2.2.1<(x.1.length:Int)))=true then
  (AX x.1 x.2.2.2.1)>>=fun (e3:AA) =>
  (AX x.1 x.2.1)>>=fun (e5:AA) =>
  DL (x.2.2.2.2,e3,e5)>>=fun r7 =>
  if r7=true then
   Ar.l1 (x.1,x.2.1,false,(w64 (x.2.2.2.1+1)),x.2.2.2.2)
  else
   Ar.l1 (x.1,x.2.1,x.2.2.1,(w64 (x.2.2.2.1+1)),x.2.2.2.2)
 else
  some x.2.2.1
 partial_fixpoint
theorem Ar.l1.ws:PC Ar.l1 (fun x o=>∀ lo c (Q:EP) (hb:∀ s:Bool,o=s→Q (.exit 2) ⟨[(1,.v (.slice .foreign (x.1.map AA.av))),(2,.lref 2 0),(5,.v (.i64 x.2.1)),(6,.v (.bool s))],[(2,[.v (.i64 x.2.2.2.2.Kind),.v (.slice .foreign (x.2.2.2.2.Edges.map AD.av)),.v (.slice .foreign (x.2.2.2.2.Stats.Rows.map AV.w)),.v (.slice .foreign (x.2.2.2.2.Stats.Sel.map AV.w))])]⟩),AJ Tryz.prog 57 lo c 1 (VQ Q) ⟨[(1,.v (.slice .foreign (x.1.map AA.av))),(2,.lref 2 0),(5,.v (.i64 x.2.1)),(6,.v (.bool x.2.2.1)),(7,.v (.i64 x.2.2.2.1))],[(2,[.v (.i64 x.2.2.2.2.Kind),.v (.slice .foreign (x.2.2.2.2.Edges.map AD.av)),.v (.slice .foreign (x.2.2.2.2.Stats.Rows.map AV.w)),.v (.slice .foreign (x.2.2.2.2.Stats.Sel.map AV.w))])]⟩):=by
 refine Ar.l1.partial_correctness _ ?_
 ·intro Pt PY x o h
  have ADW:AH Pt _:=⟨PY⟩
  intro lo c Q hb
  refine AJ.step mix ACh (by kernel_rfl) ?_
  simp -implicitDefEqProofs only[go_sem,Tryz.f57]
  exact AN
instance Ar.l1.w:type_of% (AH.mk Ar.l1.ws):=⟨Ar.l1.ws⟩
def Ar.l0 (x:List AA × Int × Aj):Option (Lp (Unit) (Int)) :=
 if(decide (x.2.1<(x.1.length:Int)))=true then
  Ar.l1 (x.1,x.2.1,true,0,x.2.2)>>=fun (o10:Bool) =>
  if o10=true then
   some (.ret x.2.1)
  else
   Ar.l0 (x.1,(w64 (x.2.1+1)),x.2.2)
 else
  some (.brk ())
 partial_fixpoint
theorem Ar.l0.ws:PC Ar.l0 (fun x o=>∀ lo c (Q:EP) (hb:∀ s:Unit,o=Lp.brk s→Q (.exit 0) ⟨[],[]⟩) (hr:∀ (r:Int) (L:AM),o=.ret r→DO Tryz.prog [.tmp 4] (.i64 r) (fun _=>True) .ret L→Q .ret L),AJ Tryz.prog 57 lo c 0 (VQ Q) ⟨[(1,.v (.slice .foreign (x.1.map AA.av))),(2,.lref 2 0),(5,.v (.i64 x.2.1))],[(2,[.v (.i64 x.2.2.Kind),.v (.slice .foreign (x.2.2.Edges.map AD.av)),.v (.slice .foreign (x.2.2.Stats.Rows.map AV.w)),.v (.slice .foreign (x.2.2.Stats.Sel.map AV.w))])]⟩):=by
 refine Ar.l0.partial_correctness _ ?_
 ·intro Qo PU x o h
  have AEq:AH Qo _:=⟨PU⟩
  intro lo c Q hb hr
  refine AJ.step mix ACh (by kernel_rfl) ?_
  simp -implicitDefEqProofs only[go_sem,Tryz.f57]
  exact AN
instance Ar.l0.w:type_of% (AH.mk Ar.l0.ws):=⟨Ar.l0.ws⟩
def Ar (x:Aj × List AA):Option (Int) :=
 Ar.l0 (x.2,0,x.1)>>=fun (o13:Lp (Unit) (Int))=>match o13 with
 | .brk s16 =>
  some (-1)
 | .ret r15 =>
  some r15
instance Ar.w:AH Ar (fun x r=>Fn Tryz.prog 57 [.agg (Aj.C x.1),.slice .foreign (x.2.map AA.av)] (.i64 r)):=⟨by
 intro x r h
 rw[Ar] at h
 try dsimp only
 refine Fn.of_lc mix ACh AKf (by rfl) (flC (Aj.flatC _) (flC (AQ _ AA.flat _) (flN))) (.atom _) ?_
 simp -implicitDefEqProofs only[go_sem,Tryz.f57]
 exact AN⟩
end
section
theorem Vn (r:Aj) (hE:r.Edges.length<9223372036854775808):∀ (n:Nat),n≤1000000000→∀ (a b:AA),a.size≤n→b.size≤n→DL (r,a,b)=some (decide (Ch (Ap r.Kind r.Edges r.Stats) a b<0)):=by
 intro n
 induction n with
 | zero=>intro _ a b h;have:=LE a;omega
 | succ n ih =>
  intro hn a b h1 h2
  have ih:=ih (by omega)
  have han:=fun x u hx hu=>TB (Ap r.Kind r.Edges r.Stats) n x u hx hu
  rw[DL]
  dsimp only
  rw[LM r hE a (by omega),LM r hE b (by omega)]
  generalize hf:Ap r.Kind r.Edges r.Stats=f at *
  simp -implicitDefEqProofs only[Option.bind_eq_bind,Option.bind_some]
  by_cases hc:Be f a=Be f b
  ·have hc0:Dy (Be f a) (Be f b)=0:=(HW _ _).2 hc
   rw[if_neg (by simp[hc])]
   by_cases ha:a.Kids.length=2
   ·obtain⟨x,y,hx⟩:=EV ha
    rw[if_neg (by simp[ha])]
    by_cases hb:b.Kids.length=2
    ·obtain⟨u,v,hu⟩:=EV hb
     rw[if_neg (by simp[hb]),Fq f hx hu]
     have e1:=Cc (t:=a) (y:=x) (by rw[hx];simp)
     have e2:=Cc (t:=a) (y:=y) (by rw[hx];simp)
     have e3:=Cc (t:=b) (y:=u) (by rw[hu];simp)
     have e4:=Cc (t:=b) (y:=v) (by rw[hu];simp)
     have x0:a.Kids[0]?=some x:=by rw[hx];rfl
     have u0:b.Kids[0]?=some u:=by rw[hu];rfl
     have x1:a.Kids[1]?=some y:=by rw[hx];rfl
     have u1:b.Kids[1]?=some v:=by rw[hu];rfl
     rw[x0,u0,x1,u1]
     simp -implicitDefEqProofs only[Option.bind_some]
     rw[Cm x (by omega),Cm u (by omega)]
     simp -implicitDefEqProofs only[Option.bind_some]
     rw[ih x u (by omega) (by omega),ih u x (by omega) (by omega),ih y v (by omega) (by omega),han x u (by omega) (by omega)]
     simp -implicitDefEqProofs only[Option.bind_some]
     have hl0:lex (Dy (Be f a) (Be f b)) (lex (Dy (AS x) (AS u)) (lex (Ch f x u) (Ch f y v)))=lex (Dy (AS x) (AS u)) (lex (Ch f x u) (Ch f y v)):=by unfold lex;rw[if_pos hc0]
     rw[hl0]
     by_cases ht:AS x=AS u
     ·have ht0:Dy (AS x) (AS u)=0:=(HW _ _).2 ht
      have hl1:lex (Dy (AS x) (AS u)) (lex (Ch f x u) (Ch f y v))=lex (Ch f x u) (Ch f y v):=by unfold lex;rw[if_pos ht0]
      rw[if_neg (by simp[ht]),hl1]
      unfold lex
      by_cases h0:Ch f x u<0
      ·rw[if_pos (by simpa using h0),if_neg (by omega)]
       simp[h0]
      ·rw[if_neg (by simpa using h0)]
       by_cases h3:- Ch f x u<0
       ·rw[if_pos (by simpa using h3),if_neg (by omega)]
        simp;omega
       ·rw[if_neg (by simpa using h3),if_pos (by omega)]
     ·rw[if_pos (by simpa using ht)]
      have hl1:lex (Dy (AS x) (AS u)) (lex (Ch f x u) (Ch f y v))=Dy (AS x) (AS u):=by unfold lex;rw[if_neg (fun e=>ht ((HW _ _).1 e))]
      rw[hl1]
      congr 1
      exact decide_eq_decide.2 (VU _ _).symm
    ·rw[if_pos (by simp;omega),HT f hx hb]
     unfold lex
     rw[if_pos hc0]
     simp;omega
   ·rw[if_pos (by simp;omega),Eg f ha]
    by_cases hb:b.Kids.length=2
    ·rw[if_pos (by simp[hb]),if_pos hb]
     unfold lex
     rw[if_pos hc0]
     simp[hb]
    ·rw[if_neg (by simp;omega),if_neg hb,Cm a (by omega),Cm b (by omega)]
     simp -implicitDefEqProofs only[Option.bind_some]
     unfold lex
     rw[if_pos hc0]
     congr 1
     exact decide_eq_decide.2 (VU _ _).symm
  ·rw[if_pos (by simpa using hc)]
   have hc0:¬ Dy (Be f a) (Be f b)=0:=fun e=>hc ((HW _ _).1 e)
   have:Ch f a b=Dy (Be f a) (Be f b):=by
    by_cases ha:a.Kids.length=2
    ·obtain⟨x,y,hx⟩:=EV ha
     by_cases hb:b.Kids.length=2
     ·obtain⟨u,v,hu⟩:=EV hb
      rw[Fq f hx hu];unfold lex;rw[if_neg hc0]
     ·rw[HT f hx hb];unfold lex;rw[if_neg hc0]
    ·rw[Eg f ha];unfold lex;rw[if_neg hc0]
   rw[this]
   congr 1
   exact decide_eq_decide.2 (VU _ _).symm
theorem WI (r:Aj) (hE:r.Edges.length<9223372036854775808) (l:List AA) (hl:l.length<9223372036854775808) (hs:∀ t∈l,t.size≤1000000) {k:Nat} (hk:AAt (Ap r.Kind r.Edges r.Stats) l k):Ar (r,l)=some (k:Int):=by
 let f:=Ap r.Kind r.Edges r.Stats
 have cmp:∀ i j (hi:i<l.length) (hj:j<l.length),DL (r,l[i],l[j])=some (decide (Ch f l[i] l[j]<0)):=fun i j hi hj=>Vn r hE 1000000 (by omega) _ _ (hs _ (List.getElem_mem hi)) (hs _ (List.getElem_mem hj))
 have anti:∀ i j (hi:i<l.length) (hj:j<l.length),Ch f l[j] l[i] = - Ch f l[i] l[j]:=fun i j hi hj=>TB f 1000000 _ _ (hs _ (List.getElem_mem hi)) (hs _ (List.getElem_mem hj))
 have inner:∀ i (hi:i<l.length) n j (b:Bool),l.length - j=n→j≤l.length→Ar.l1 (l,(i:Int),b,(j:Int),r)=some (b&&decide (∀ k (h:k<l.length),j≤k→¬ Ch f l[k] l[i]<0)):=by
  intro i hi n
  induction n with
  | zero =>
   intro j b h1 h2
   obtain rfl:j=l.length:=by omega
   rw[Ar.l1,if_neg (dge (by dsimp only;omega))]
   have:∀ k (h:k<l.length),l.length≤k→¬ Ch f l[k] l[i]<0:=fun k h h'=>by omega
   rw[decide_eq_true this,Bool.and_true]
  | succ n ih =>
   intro j b h1 h2
   have hj:j<l.length:=by omega
   rw[Ar.l1,if_pos (dlt (by dsimp only;omega))]
   dsimp only
   rw[Ag hj,Ag hi]
   simp -implicitDefEqProofs only[Option.bind_eq_bind,Option.bind_some]
   rw[cmp j i hj hi]
   simp -implicitDefEqProofs only[Option.bind_some]
   rw[AU (by omega),ih (j+1) _ (by omega) (by omega),ih (j+1) _ (by omega) (by omega)]
   have split:(∀ k (h:k<l.length),j≤k→¬ Ch f l[k] l[i]<0) ↔ ¬ Ch f l[j] l[i]<0∧∀ k (h:k<l.length),j+1≤k→¬ Ch f l[k] l[i]<0:=by
    constructor
    ·intro h;exact⟨h j hj (Nat.le_refl _),fun k h' h2=>h k h' (by omega)⟩
    ·rintro⟨h,h'⟩ k hk h2
     by_cases e:k=j
     ·subst e;exact h
     ·exact h' k hk (by omega)
   by_cases hc:Ch f l[j] l[i]<0
   ·rw[if_pos (by simpa using hc)]
    have:¬ (∀ k (h:k<l.length),j≤k→¬ Ch f l[k] l[i]<0):=fun h=>(split.1 h).1 hc
    rw[decide_eq_false this];simp
   ·rw[if_neg (by simpa using hc)]
    congr 2
    exact decide_eq_decide.2 ⟨fun h=>split.2 ⟨hc,h⟩,fun h=>(split.1 h).2⟩
 have outer:∀ n i,k - i=n→i≤k→Ar.l0 (l,(i:Int),r)=some (.ret (k:Int)):=by
  intro n
  induction n with
  | zero =>
   intro i h1 h2
   obtain rfl:i=k:=by omega
   have hi:=hk.lt
   rw[Ar.l0,if_pos (dlt (by dsimp only;omega))]
   dsimp only
   have:=inner i hi l.length 0 true (by omega) (by omega)
   rw[show ((0:Nat):Int)=0 from rfl] at this
   rw[this]
   have h3:∀ j (h:j<l.length),0≤j→¬ Ch f l[j] l[i]<0:=fun j h _=>by
    have h4:Ch f l[i] l[j]≤0:=hk.all j h
    have:=anti i j hi h
    omega
   rw[decide_eq_true h3];rfl
  | succ n ih =>
   intro i h1 h2
   have hkl:=hk.lt
   have hi:i<l.length:=by omega
   rw[Ar.l0,if_pos (dlt (by dsimp only;omega))]
   dsimp only
   have:=inner i hi l.length 0 true (by omega) (by omega)
   rw[show ((0:Nat):Int)=0 from rfl] at this
   rw[this]
   have h3:¬ ∀ j (h:j<l.length),0≤j→¬ Ch f l[j] l[i]<0:=fun h=>h k hkl (Nat.zero_le _) (hk.prev i hi (by omega))
   rw[decide_eq_false h3]
   simp -implicitDefEqProofs only[Option.bind_eq_bind,Option.bind_some,Bool.and_false]
   rw[if_neg (by decide),AU (by omega)]
   exact ih (i+1) (by omega) (by omega)
 unfold Ar
 have:=outer k 0 (by omega) (by omega)
 rw[show ((0:Nat):Int)=0 from rfl] at this
 dsimp only
 rw[this];rfl
end
section
end
section
end
section
end
section
end
section
theorem ABJ (i:Int):AS (FI i)=Cw i:=by
 unfold AS
 rw[Db]
 show ofL (Ad [FI i])=Cw i
 rw[II (x:=FI i) [] rfl]
 show ofL (i :: Ad [])=Cw i
 rw[Gd,show Ad []=[] from rfl,Hy,BitVec.or_zero]
theorem XH {s:AC} (h:Al s=1):s=Cw (Fr s)∧0≤Fr s∧Fr s<64:=by
 unfold Al at h
 obtain⟨i,hi⟩:=List.length_eq_one_iff.1 h
 have hm:Fr s=i:=by unfold Fr;rw[hi]
 have hr:=GI s i (by rw[hi];exact List.mem_singleton.2 rfl)
 rw[hm]
 refine⟨Jm fun n=>?_,hr⟩
 have h1:=IG s n
 rw[hi,List.mem_singleton] at h1
 rw[Ib]
 by_cases e:n=i
 ·subst e
  rw[h1.1 rfl];simp[hr]
 ·have:AY s n=false:=by
   cases h2:AY s n with
   | false=>rfl
   | true=>exact absurd (h1.2 h2) e
  rw[this]
  have e':i≠n:=fun h=>e h.symm
  simp[e']
theorem ADN {es:List AD} {a b:AC} (h:DD es a b=true):1≤NE es (Bs es a b):=by
 unfold DD at h
 rw[Bool.and_eq_true,Bool.and_eq_true,Bool.or_eq_true] at h
 obtain⟨⟨h1,_⟩,h2⟩:=h
 unfold NE
 cases hn:Bs es a b with
 | nil=>rw[hn] at h1;simp at h1
 | cons i l =>
  dsimp only
  rw[hn,List.all_cons,List.all_cons,Bool.and_eq_true,Bool.and_eq_true,Bool.and_eq_true] at h2
  rcases h2 with h2 | h2
  ·have:=h2.1;unfold Ek at this;simp at this;omega
  ·have:=h2.2.1;unfold Fe at this;simp at this;omega
theorem ABt {es:List AD} {a b:AC} (h:DD es a b=true) (x y:AA):AS (DA es a b x y)=AS x|||AS y:=by
 have hk:=ADN h
 unfold AS
 rw[Db]
 have e:(DA es a b x y).Kids=[x,y]:=rfl
 rw[e]
 simp only[List.flatMap_cons,List.flatMap_nil,List.append_nil]
 rw[Ct,Ct,GV (x:=DA es a b x y) [] (by show ¬ NE es (Bs es a b)=0;omega)]
 rw[show Ad []=[] from rfl,List.append_nil,Oe]
theorem VB {a s:AC} (h:inS a s=true):a|||(s&&&~~~a)=s:=by
 refine Jm fun n=>?_
 rw[IM,Je]
 have h2:=(DB a s).1 h n
 cases h3:AY a n <;> cases h4:AY s n <;> simp_all
theorem Jp {es:List AD} {n:Nat} {s:AC} {t:AA} (h:t∈spF es (n+1) s):(Al s=1∧t=FI (Fr s)) ∨
  (Al s≠1∧∃ a x y,a≠0#64∧inS a s=true∧a≠s∧DD es a (s&&&~~~a)=true∧x∈spF es n a∧y∈spF es n (s&&&~~~a)∧t=DA es a (s&&&~~~a) x y):=by
 rw[spF] at h
 split at h
 ·rename_i h1;exact .inl ⟨h1,List.mem_singleton.1 h⟩
 ·rename_i h1
  refine .inr ⟨h1,?_⟩
  obtain⟨a,ha,h⟩:=List.mem_flatMap.1 h
  obtain⟨h2,h3,h4⟩:=IY ha
  split at h
  ·rename_i hj
   obtain⟨x,hx,h⟩:=List.mem_flatMap.1 h
   obtain⟨y,hy,rfl⟩:=List.mem_map.1 h
   exact⟨a,x,y,h2,h3,h4,hj,hx,hy,rfl⟩
  ·cases h
theorem Zj {s a:AC} (h0:a≠0#64) (h:inS a s=true) (hne:a≠s):a∈(BS s).dropLast:=by
 have hm:=(CY s a).2 ⟨h0,h⟩
 have hnn:BS s≠[]:=List.ne_nil_of_mem hm
 rw[← List.dropLast_concat_getLast hnn] at hm
 rcases List.mem_append.1 hm with h1 | h1
 ·exact h1
 ·exfalso
  rw[List.mem_singleton] at h1
  have hs0:s≠0#64:=by
   rintro rfl
   exact h0 ((HH a).2 fun n=>by
    cases h2:AY a n with
    | false=>rfl
    | true=>have:=(DB a 0#64).1 h n h2;rw[HA] at this;cases this)
  have hs:s∈BS s:=(CY s s).2 ⟨hs0,(DB s s).2 fun n hn=>hn⟩
  rw[← List.dropLast_concat_getLast hnn] at hs
  rcases List.mem_append.1 hs with h2 | h2
  ·exact(IY h2).2.2 rfl
  ·rw[List.mem_singleton] at h2
   exact hne (h1.trans h2.symm)
theorem AGI {es:List AD} {n:Nat} {s a:AC} {x y:AA} (hc:Al s≠1) (h0:a≠0#64) (h:inS a s=true) (hne:a≠s) (hj:DD es a (s&&&~~~a)=true) (hx:x∈spF es n a) (hy:y∈spF es n (s&&&~~~a)):DA es a (s&&&~~~a) x y∈spF es (n+1) s:=by
 rw[spF,if_neg hc]
 refine List.mem_flatMap.2 ⟨a,Zj h0 h hne,?_⟩
 rw[if_pos hj]
 exact List.mem_flatMap.2 ⟨x,hx,List.mem_map.2 ⟨y,hy,rfl⟩⟩
theorem GS {es:List AD}:∀ (n:Nat) (s:AC) (t:AA),t∈spF es n s→AS t=s:=by
 intro n
 induction n with
 | zero=>intro s t h;cases h
 | succ n ih =>
  intro s t h
  rcases Jp h with⟨h1,rfl⟩|⟨_,a,x,y,_,h3,_,hj,hx,hy,rfl⟩
  ·rw[ABJ];exact(XH h1).1.symm
  ·rw[ABt hj,ih a x hx,ih _ y hy,VB h3]
theorem AGq {es:List AD} {W:Nat} (hW:∀ a b,wtC (DJ es (Bs es a b))≤W):∀ (n:Nat) (s:AC) (t:AA),t∈spF es n s→t.size+(W+1)≤2 * Al s * (W+1):=by
 intro n
 induction n with
 | zero=>intro s t h;cases h
 | succ n ih =>
  intro s t h
  rcases Jp h with⟨h1,rfl⟩|⟨_,a,x,y,h2,h3,h4,hj,hx,hy,rfl⟩
  ·have e:(FI (Fr s)).size=1:=by rw[EE];rfl
   rw[e,h1];omega
  ·have i1:=ih a x hx
   have i2:=ih _ y hy
   have hw:=hW a (s&&&~~~a)
   have hc:=Ip h3
   have e:(DA es a (s&&&~~~a) x y).size=1+wtC (DJ es (Bs es a (s&&&~~~a)))+(x.size+(y.size+0)):=by rw[EE];rfl
   have e2:2 * (Al a+Al (s&&&~~~a)) * (W+1)=2 * Al a * (W+1)+2 * Al (s&&&~~~a) * (W+1):=by rw[Nat.mul_add 2,Nat.add_mul]
   rw[e,hc,e2]
   omega
end
section
def Et (f:Gx) (t u:AA):Bool:=decide ((Be f t).toNat<(Be f u).toNat) || (decide ((Be f t).toNat=(Be f u).toNat)&&decide ((NV t).toNat<(NV u).toNat))
def IE (f:Gx) (acc c:Option AA):Option AA:=match c with
 | none=>acc
 | some t=>match acc with
  | none=>some t
  | some u=>if Et f t u=true then some t else some u
theorem ADn (f:Gx):∀ (l:List (Option AA)) (acc:Option AA),(l.foldl (IE f) acc=none→acc=none∧∀ c∈l,c=none) ∧
  ∀ t,l.foldl (IE f) acc=some t→(acc=some t∨some t∈l)∧(∀ u,acc=some u→Et f u t=false)∧∀ u,some u∈l→Et f u t=false:=by
 have irr:∀ t,Et f t t=false:=fun t=>by unfold Et;simp
 have tr:∀ a b c,Et f a b=false→Et f b c=false→Et f a c=false:=fun a b c h1 h2=>by
  unfold Et at *
  simp only[Bool.or_eq_false_iff,Bool.and_eq_false_iff,decide_eq_false_iff_not] at *
  omega
 have as_:∀ a b,Et f a b=true→Et f b a=false:=fun a b h=>by
  unfold Et at *
  simp only[Bool.or_eq_false_iff,Bool.and_eq_false_iff,decide_eq_false_iff_not,Bool.or_eq_true,Bool.and_eq_true,decide_eq_true_eq] at *
  omega
 intro l
 induction l with
 | nil =>
  intro acc
  refine⟨fun h=>⟨h,fun c hc=>by cases hc⟩,fun t h=>⟨.inl h,fun u hu=>?_,fun u hu=>by cases hu⟩⟩
  have h:acc=some t:=h
  rw[h] at hu;injection hu with hu;subst hu;exact irr _
 | cons c l ih =>
  intro acc
  obtain⟨h1,h2⟩:=ih (IE f acc c)
  refine⟨fun h=>?_,fun t h=>?_⟩
  ·obtain⟨h3,h4⟩:=h1 h
   cases c with
   | none=>exact⟨h3,fun d hd=>(List.mem_cons.1 hd).elim id (h4 d)⟩
   | some u =>
    unfold IE at h3
    cases acc with
    | none=>cases h3
    | some v=>dsimp only at h3;split at h3 <;> cases h3
  ·obtain⟨h3,h4,h5⟩:=h2 t h
   cases c with
   | none=>exact⟨h3.imp id (List.mem_cons_of_mem _),h4,fun u hu=>(List.mem_cons.1 hu).elim (fun e=>by cases e) (h5 u)⟩
   | some u =>
    cases acc with
    | none =>
     refine⟨?_,fun v hv=>(by cases hv),fun v hv=>?_⟩
     ·rcases h3 with h3 | h3
      ·exact .inr (by rw[← h3];exact List.mem_cons_self)
      ·exact .inr (List.mem_cons_of_mem _ h3)
     ·rcases List.mem_cons.1 hv with e | e
      ·exact h4 v e.symm
      ·exact h5 v e
    | some v =>
     have hp:IE f (some v) (some u)=if Et f u v=true then some u else some v:=rfl
     by_cases hb:Et f u v=true
     ·rw[hp,if_pos hb] at h3 h4
      have h6:=h4 u rfl
      refine⟨?_,fun w hw=>?_,fun w hw=>?_⟩
      ·rcases h3 with h3 | h3
       ·exact .inr (by rw[← h3];exact List.mem_cons_self)
       ·exact .inr (List.mem_cons_of_mem _ h3)
      ·injection hw with hw;subst hw;exact tr _ _ _ (as_ _ _ hb) h6
      ·rcases List.mem_cons.1 hw with e | e
       ·injection e with e;subst e;exact h6
       ·exact h5 w e
     ·rw[hp,if_neg hb] at h3 h4
      have h6:=h4 v rfl
      refine⟨?_,fun w hw=>?_,fun w hw=>?_⟩
      ·rcases h3 with h3 | h3
       ·exact .inl h3
       ·exact .inr (List.mem_cons_of_mem _ h3)
      ·injection hw with hw;subst hw;exact h6
      ·rcases List.mem_cons.1 hw with e | e
       ·injection e with e;subst e;exact tr _ _ _ (by simpa using hb) h6
       ·exact h5 w e
section
variable {es:List AD} {f:Gx}
theorem Sw {c d:Int} (h:lex c d=0):c=0∧d=0:=by
 unfold lex at h
 split at h
 ·rename_i hc;exact⟨hc,h⟩
 ·rename_i hc;exact absurd h hc
theorem ACO:∀ (n:Nat) (s:AC) (x y:AA),x∈spF es n s→y∈spF es n s→Ch f x y=0→x=y:=by
 intro n
 induction n with
 | zero=>intro s x y h;cases h
 | succ n ih =>
  intro s x y hx hy hc
  rcases Jp hx with⟨h1,rfl⟩|⟨h1,a,x1,x2,_,ha,_,_,hx1,hx2,rfl⟩
  ·rcases Jp hy with⟨_,rfl⟩|⟨h2,_⟩
   ·rfl
   ·exact absurd h1 h2
  ·rcases Jp hy with⟨h2,_⟩|⟨_,b,y1,y2,_,hb,_,_,hy1,hy2,rfl⟩
   ·exact absurd h2 h1
   ·rw[Fq f (x:=x1) (y:=x2) (u:=y1) (v:=y2) rfl rfl] at hc
    obtain⟨_,hc⟩:=Sw hc
    obtain⟨h3,hc⟩:=Sw hc
    obtain⟨h4,h5⟩:=Sw hc
    have e:=(HW _ _).1 h3
    rw[GS n a x1 hx1,GS n b y1 hy1] at e
    subst e
    rw[ih a x1 y1 hx1 hy1 h4,ih _ x2 y2 hx2 hy2 h5]
theorem AEw {m n:Nat} (h:m≤n):(Cz m).toNat≤(Cz n).toNat:=by rw[GK,GK];omega
theorem WN (a b:AC):Dy a b≤0 ↔ a.toNat≤b.toNat:=by
 unfold Dy
 split
 ·omega
 ·split <;> omega
theorem No {c d:Int}:lex c d≤0 ↔ c<0∨(c=0∧d≤0):=by
 unfold lex
 split <;> omega
theorem ZN {x y:AA} (h:Ch f x y≤0):(Be f x).toNat≤(Be f y).toNat:=by
 have key:∀ d,lex (Dy (Be f x) (Be f y)) d≤0→(Be f x).toNat≤(Be f y).toNat:=fun d hd=>by
  rcases No.1 hd with h1 | ⟨h1,_⟩
  ·exact(WN _ _).1 (by omega)
  ·exact(WN _ _).1 (by omega)
 by_cases hx:x.Kids.length=2
 ·obtain⟨a,b,hk⟩:=EV hx
  by_cases hy:y.Kids.length=2
  ·obtain⟨c,d,hk2⟩:=EV hy
   rw[Fq f hk hk2] at h;exact key _ h
  ·rw[HT f hk hy] at h;exact key _ h
 ·rw[Eg f hx] at h;exact key _ h
theorem AGX (i:Int):Ch f (FI i) (FI i)=0:=by
 rw[Eg f (by show ([]:List AA).length≠2;simp)]
 rw[if_neg (by show ¬ ([]:List AA).length=2;simp)]
 have h:∀ a:AC,Dy a a=0:=fun a=>(HW a a).2 rfl
 rw[h,h];rfl
end
end
section
theorem Wy {α:Type} (k k':AC) (v:α):∀ es:List (AC × α),CP k (Hh k' v es)=if k=k' then some v else CP k es:=by
 intro es
 induction es with
 | nil =>
  simp only[Hh,CP]
  by_cases h:k=k'
  ·rw[if_pos (by simpa using h),if_pos h]
  ·rw[if_neg (by simpa using h),if_neg h]
 | cons e l ih =>
  simp only[Hh]
  by_cases h1:k'=e.1
  ·rw[if_pos (by simpa using h1)]
   simp only[CP]
   by_cases h:k=k'
   ·rw[if_pos (by simpa using h),if_pos h]
   ·rw[if_neg (by simpa using h),if_neg h,if_neg (by simpa using fun e=>h (e.trans h1.symm))]
  ·rw[if_neg (by simpa using h1)]
   simp only[CP]
   by_cases h2:k=e.1
   ·have h3:¬ k=k':=fun h=>h1 (h.symm.trans h2)
    rw[if_pos (by simpa using h2),if_neg h3,if_pos (by simpa using h2)]
   ·rw[if_neg (by simpa using h2),ih]
    by_cases h3:k=k'
    ·rw[if_pos h3,if_pos h3]
    ·rw[if_neg h3,if_neg h3,if_neg (by simpa using h2)]
theorem NY {α:Type} (es:List (AC × α)) (k:AC) (z:α):Pe es k z=some (match CP k es with
  | some v=>(v,true)
  | none=>(z,false)):=by
 unfold Pe
 cases CP k es <;> rfl
theorem ALM (a b:AC):∀ (post pre es:List AD),pre++post=es→wtC (DJ es (ED a b pre.length post))≤(post.map fun e=>wtC e.Preds).sum:=by
 intro post
 induction post with
 | nil=>intro pre es _;exact Nat.le_refl _
 | cons e l ih =>
  intro pre es he
  have h1:=ih (pre++[e]) es (by rw[List.append_assoc];exact he)
  rw[CF] at h1
  rw[ED,List.map_cons,List.sum_cons]
  split
  ·have hg:BC es (pre.length:Int)=e:=by unfold BC;rw[← he,Ef]
   have h2:DJ es ((pre.length:Int) :: ED a b (pre.length+1) l)=e.Preds++DJ es (ED a b (pre.length+1) l):=by
    unfold DJ
    rw[List.flatMap_cons,hg]
   rw[h2]
   unfold wtC at h1 ⊢
   rw[List.map_append,List.sum_append]
   omega
  ·omega
theorem AD7 (es:List AD) (a b:AC):wtC (DJ es (Bs es a b))≤(es.map fun e=>wtC e.Preds).sum:=ALM a b es [] es rfl
theorem AGP {cols:List Int} (hc:cols.length≤64) {t:AA} (ok:OkT cols t) (hnd:(Ad t.tour).Nodup) (hsz:t.size≤1000):∃ es,BD t=some es∧Gp es∧∀ a b,wtC (DJ es (Bs es a b))≤t.size:=by
 obtain⟨es,h1,h2,h3,h4⟩:=AAl hc ok hnd hsz
 exact⟨es,h1,⟨h2,h3⟩,fun a b=>Nat.le_trans (AD7 es a b) h4⟩
end
section
def DT (s:AC):List AC:=(BS s).filter fun a=>decide (a≠s)
theorem Ee (s a:AC):a∈DT s ↔ a≠0#64∧inS a s=true∧a≠s:=by
 unfold DT
 rw[List.mem_filter,CY]
 simp[and_assoc]
def Fj (es:List AD) (a b:AC) (D E:Option AA):Option AA:=if DD es a b=true then D.bind fun x=>E.map fun y=>DA es a b x y else none
def Bd (es:List AD) (f:Gx):Nat→AC→Option AA
 | 0,_=>none
 | n+1,s=>if Al s=1 then some (FI (Fr s)) else((DT s).map fun a=>Fj es a (s&&&~~~a) (Bd es f n a) (Bd es f n (s&&&~~~a))).foldl (IE f) none
theorem El {s a:AC} (h:a∈DT s):Al s=Al a+Al (s&&&~~~a)∧1≤Al a∧1≤Al (s&&&~~~a):=by
 obtain⟨h1,h2,h3⟩:=(Ee s a).1 h
 refine⟨Ip h2,?_,?_⟩
 ·rcases Nat.eq_zero_or_pos (Al a) with h | h
  ·exact absurd (Ky h) h1
  ·exact h
 ·rcases Nat.eq_zero_or_pos (Al (s&&&~~~a)) with h | h
  ·exact absurd (ZO h2 (Ky h)) h3
  ·exact h
theorem Ok {es:List AD} {a b:AC} {D E:Option AA} {t:AA} (h:Fj es a b D E=some t):DD es a b=true∧∃ x y,D=some x∧E=some y∧t=DA es a b x y:=by
 unfold Fj at h
 split at h
 ·rename_i hj
  cases D with
  | none=>cases h
  | some x =>
   cases E with
   | none=>cases h
   | some y=>injection h with h;exact⟨hj,x,y,rfl,rfl,h.symm⟩
 ·cases h
section
variable {es:List AD} {f:Gx}
theorem AFk {n:Nat} {a b:AC} {d x e y:AA} (hd:d∈spF es n a) (hx:x∈spF es n a) (he:e∈spF es n b) (hy:y∈spF es n b) (h:Ch f d x≤0) (k:Ch f e y≤0):Ch f (DA es a b d e) (DA es a b x y)≤0:=by
 have hc:=ZN h
 have hc2:=ZN k
 have hz:∀ a:AC,Dy a a=0:=fun a=>(HW a a).2 rfl
 rw[Fq f (x:=d) (y:=e) (u:=x) (v:=y) rfl rfl,GS n a d hd,GS n a x hx,hz]
 have h1:(Be f (DA es a b d e)).toNat≤(Be f (DA es a b x y)).toNat:=by
  rw[Mq f (t:=DA es a b d e) (x:=d) (y:=e) rfl,Mq f (t:=DA es a b x y) (x:=x) (y:=y) rfl,GS n a d hd,GS n a x hx,GS n b e he,GS n b y hy]
  refine AEw ?_
  show _+_+(f a b (DJ es (Bs es a b))).toNat≤_+_+(f a b (DJ es (Bs es a b))).toNat
  omega
 have h2:=(WN _ _).2 h1
 rw[No]
 have h3:lex 0 (lex (Ch f d x) (Ch f e y))≤0:=by
  rw[No];right
  refine⟨rfl,?_⟩
  rw[No];omega
 omega
theorem KP {M:Nat} (hsz:∀ n s t,Al s≤5→t∈spF es n s→t.size≤M):∀ (n:Nat) (s:AC),Al s≤5→(Bd es f n s=none→∀ x,x ∉ spF es n s) ∧
  ∀ t,Bd es f n s=some t→t∈spF es n s∧∀ x∈spF es n s,Ch f t x≤0:=by
 intro n
 induction n with
 | zero=>intro s _;exact⟨fun _ x hx=>(by cases hx),fun t h=>(by cases h)⟩
 | succ n ih =>
  intro s hs
  by_cases hc:Al s=1
  ·have e:Bd es f (n+1) s=some (FI (Fr s)):=by rw[Bd,if_pos hc]
   have e2:spF es (n+1) s=[FI (Fr s)]:=by rw[spF,if_pos hc]
   rw[e,e2]
   refine⟨fun h=>(by cases h),fun t h=>?_⟩
   injection h with h;subst h
   refine⟨List.mem_singleton.2 rfl,fun x hx=>?_⟩
   rw[List.mem_singleton] at hx
   subst hx
   rw[AGX];exact Int.le_refl _
  ·have e:Bd es f (n+1) s=((DT s).map fun a=>Fj es a (s&&&~~~a) (Bd es f n a) (Bd es f n (s&&&~~~a))).foldl (IE f) none:=by rw[Bd,if_neg hc]
   obtain⟨p1,p2⟩:=ADn f ((DT s).map fun a=>Fj es a (s&&&~~~a) (Bd es f n a) (Bd es f n (s&&&~~~a))) none
   rw[← e] at p1 p2
   have over:∀ x∈spF es (n+1) s,∃ a∈DT s,∃ t,Fj es a (s&&&~~~a) (Bd es f n a) (Bd es f n (s&&&~~~a))=some t∧Ch f t x≤0:=fun x hx=>by
    rcases Jp hx with⟨h1,_⟩|⟨_,a,x1,y1,h2,h3,h4,hj,hx1,hy1,rfl⟩
    ·exact absurd h1 hc
    ·have ha:a∈DT s:=(Ee s a).2 ⟨h2,h3,h4⟩
     obtain⟨k1,k2,k3⟩:=El ha
     obtain⟨q1,q2⟩:=ih a (by omega)
     obtain⟨r1,r2⟩:=ih (s&&&~~~a) (by omega)
     cases hb:Bd es f n a with
     | none=>exact absurd hx1 (q1 hb _)
     | some d =>
      cases hb2:Bd es f n (s&&&~~~a) with
      | none=>exact absurd hy1 (r1 hb2 _)
      | some e =>
       obtain⟨u1,u2⟩:=q2 d hb
       obtain⟨v1,v2⟩:=r2 e hb2
       exact⟨a,ha,DA es a (s&&&~~~a) d e,by rw[hb,hb2];unfold Fj;rw[if_pos hj];rfl,AFk u1 hx1 v1 hy1 (u2 _ hx1) (v2 _ hy1)⟩
   have mem:∀ a∈DT s,∀ t,Fj es a (s&&&~~~a) (Bd es f n a) (Bd es f n (s&&&~~~a))=some t→t∈spF es (n+1) s:=fun a ha t ht=>by
    obtain⟨hj,d,e,h1,h2,rfl⟩:=Ok ht
    obtain⟨k1,k2,k3⟩:=El ha
    obtain⟨m1,m2,m3⟩:=(Ee s a).1 ha
    exact AGI hc m1 m2 m3 hj ((ih a (by omega)).2 d h1).1 ((ih _ (by omega)).2 e h2).1
   refine⟨fun h x hx=>?_,fun t ht=>?_⟩
   ·obtain⟨a,ha,t,h1,_⟩:=over x hx
    have:=(p1 h).2 _ (List.mem_map.2 ⟨a,ha,h1⟩)
    cases this
   ·obtain⟨h1,_,h3⟩:=p2 t ht
    rcases h1 with h1 | h1
    ·cases h1
    obtain⟨a,ha,hta⟩:=List.mem_map.1 h1
    have m1:=mem a ha t hta
    refine⟨m1,fun x hx=>?_⟩
    obtain⟨b,hb,u,hu,hux⟩:=over x hx
    have hbt:=h3 u (List.mem_map.2 ⟨b,hb,hu⟩)
    have m3:=mem b hb u hu
    have htu:Ch f t u≤0:=by
     obtain⟨_,d1,e1,g1,g2,rfl⟩:=Ok hta
     obtain⟨_,d2,e2,g3,g4,rfl⟩:=Ok hu
     obtain⟨k1,k2,k3⟩:=El ha
     obtain⟨l1,l2,l3⟩:=El hb
     have t1:AS d1=a:=GS n _ d1 ((ih a (by omega)).2 d1 g1).1
     have t2:AS d2=b:=GS n _ d2 ((ih b (by omega)).2 d2 g3).1
     have c1:NV (DA es a (s&&&~~~a) d1 e1)=a:=by rw[Ly (a:=d1) (b:=e1) rfl];exact t1
     have c2:NV (DA es b (s&&&~~~b) d2 e2)=b:=by rw[Ly (a:=d2) (b:=e2) rfl];exact t2
     unfold Et at hbt
     rw[c1,c2] at hbt
     simp only[Bool.or_eq_false_iff,Bool.and_eq_false_iff,decide_eq_false_iff_not] at hbt
     by_cases hab:a=b
     ·subst hab
      rw[g1] at g3;injection g3 with g3;subst g3
      rw[g2] at g4;injection g4 with g4;subst g4
      have hz:∀ t,Ch f t t=0:=fun t=>by have:=TB f t.size t t (Nat.le_refl _) (Nat.le_refl _);omega
      rw[hz];exact Int.le_refl _
     ·rw[Fq f (x:=d1) (y:=e1) (u:=d2) (v:=e2) rfl rfl,No]
      have hne:a.toNat≠b.toNat:=fun h=>hab (BitVec.eq_of_toNat_eq h)
      rw[t1,t2]
      have hle:∀ (a b:AC),a.toNat<b.toNat→Dy a b = -1:=fun a b h=>by unfold Dy;rw[if_pos h]
      by_cases hcost:(Be f (DA es a (s&&&~~~a) d1 e1)).toNat<(Be f (DA es b (s&&&~~~b) d2 e2)).toNat
      ·left;rw[hle _ _ hcost];decide
      ·have he:(Be f (DA es a (s&&&~~~a) d1 e1)).toNat=(Be f (DA es b (s&&&~~~b) d2 e2)).toNat:=by omega
       right
       refine⟨(HW _ _).2 (BitVec.eq_of_toNat_eq he),?_⟩
       rw[No];left
       rw[hle _ _ (by omega)];decide
    have tri:=AIv f M t u x (hsz _ s t hs m1) (hsz _ s u hs m3) (hsz _ s x hs hx)
    exact(tri.1 htu hux).1
theorem Tp:∀ (n m:Nat) (s:AC),Al s≤n→Al s≤m→1≤Al s→Bd es f n s=Bd es f m s:=by
 intro n
 induction n with
 | zero=>intro m s h1 h2 h3;omega
 | succ n ih =>
  intro m s h1 h2 h3
  cases m with
  | zero=>omega
  | succ m =>
   rw[Bd,Bd]
   split
   ·rfl
   ·congr 1
    refine List.map_congr_left fun a ha=>?_
    obtain⟨k1,k2,k3⟩:=El ha
    rw[ih m a (by omega) (by omega) k2,ih m (s&&&~~~a) (by omega) (by omega) k3]
end
end
section
theorem AKG:okF Tryz.f79=true:=by kernel_rfl
def BQ.l0 (x:List AB × List AB × Int × Int × AA × AA):Option (List AB) :=
 if(decide (x.2.2.2.1<x.2.2.1))=true then
  (AX x.2.1 x.2.2.2.1)>>=fun (e2:AB) =>
  Cj e2>>=fun r4 =>
  (room 128 x.1 ([r4]))>>=fun (z6:List AB) =>
  BQ.l0 (z6,x.2.1,x.2.2.1,(w64 (x.2.2.2.1+1)),x.2.2.2.2.1,x.2.2.2.2.2)
 else
  some x.1
 partial_fixpoint
theorem BQ.l0.ws:PC BQ.l0 (fun x o=>∀ lo c (Q:EP) (hb:∀ s:List AB,o=s→Q (.exit 0) ⟨[(1,.lref 1 0),(2,.lref 2 0),(3,.own 100300 14 (s.map AB.av))],[(1,[.v (.i64 x.2.2.2.2.1.Kind),.v (.i64 x.2.2.2.2.1.Table),.v (.slice .foreign (x.2.2.2.2.1.Kids.map AA.av)),.v (.slice .foreign (x.2.2.2.2.1.Conj.map AB.av)),.v (.bool x.2.2.2.2.1.Hash)]),(2,[.v (.i64 x.2.2.2.2.2.Kind),.v (.i64 x.2.2.2.2.2.Table),.own 20000202 5 (x.2.2.2.2.2.Kids.map AA.av),.own 20000203 14 (x.2.2.2.2.2.Conj.map AB.av),.v (.bool x.2.2.2.2.2.Hash)])]⟩),AJ Tryz.prog 79 lo c 0 (VQ Q) ⟨[(1,.lref 1 0),(2,.lref 2 0),(3,.own 100300 14 (x.1.map AB.av)),(10,.v (.slice .foreign (x.2.1.map AB.av))),(11,.v (.i64 x.2.2.1)),(12,.v (.i64 x.2.2.2.1))],[(1,[.v (.i64 x.2.2.2.2.1.Kind),.v (.i64 x.2.2.2.2.1.Table),.v (.slice .foreign (x.2.2.2.2.1.Kids.map AA.av)),.v (.slice .foreign (x.2.2.2.2.1.Conj.map AB.av)),.v (.bool x.2.2.2.2.1.Hash)]),(2,[.v (.i64 x.2.2.2.2.2.Kind),.v (.i64 x.2.2.2.2.2.Table),.own 20000202 5 (x.2.2.2.2.2.Kids.map AA.av),.own 20000203 14 (x.2.2.2.2.2.Conj.map AB.av),.v (.bool x.2.2.2.2.2.Hash)])]⟩):=by
 refine BQ.l0.partial_correctness _ ?_
 ·intro TI Rb x o h
  have AFs:AH TI _:=⟨Rb⟩
  intro lo c Q hb
  refine AJ.step mix ACS (by kernel_rfl) ?_
  simp -implicitDefEqProofs only[go_sem,Tryz.f79]
  exact AN
instance BQ.l0.w:type_of% (AH.mk BQ.l0.ws):=⟨BQ.l0.ws⟩
mutual
def BQ.l1 (x:List AB × List AA × List AA × Int × Int × AA × AA):Option (List AA) :=
 if(decide (x.2.2.2.2.1<x.2.2.2.1))=true then
  (AX x.2.2.1 x.2.2.2.2.1)>>=fun (e11:AA) =>
  BQ e11>>=fun r13 =>
  (room 72 x.2.1 ([r13]))>>=fun (z15:List AA) =>
  BQ.l1 (x.1,z15,x.2.2.1,x.2.2.2.1,(w64 (x.2.2.2.2.1+1)),x.2.2.2.2.2.1,x.2.2.2.2.2.2)
 else
  some x.2.1
 partial_fixpoint
def BQ (x:AA):Option (AA) :=
 BQ.l0 (([]:List AB),x.Conj,(x.Conj.length:Int),0,x,(⟨0,0,[],[],false⟩:AA))>>=fun (o8:List AB) =>
 BQ.l1 (o8,([]:List AA),x.Kids,(x.Kids.length:Int),0,x,(⟨0,0,[],[],false⟩:AA))>>=fun (o17:List AA) =>
 some (⟨x.Kind,x.Table,o17,o8,x.Hash⟩:AA)
 partial_fixpoint
end
theorem BQ.l1.ws:PC BQ.l1 (fun x o=>∀ lo c (Q:EP) (hb:∀ s:List AA,o=s→Q (.exit 2) ⟨[(1,.lref 1 0),(2,.lref 2 0),(3,.own 100300 14 (x.1.map AB.av)),(6,.own 100600 5 (s.map AA.av))],[(1,[.v (.i64 x.2.2.2.2.2.1.Kind),.v (.i64 x.2.2.2.2.2.1.Table),.v (.slice .foreign (x.2.2.2.2.2.1.Kids.map AA.av)),.v (.slice .foreign (x.2.2.2.2.2.1.Conj.map AB.av)),.v (.bool x.2.2.2.2.2.1.Hash)]),(2,[.v (.i64 x.2.2.2.2.2.2.Kind),.v (.i64 x.2.2.2.2.2.2.Table),.own 20000202 5 (x.2.2.2.2.2.2.Kids.map AA.av),.own 20000203 14 (x.2.2.2.2.2.2.Conj.map AB.av),.v (.bool x.2.2.2.2.2.2.Hash)])]⟩),AJ Tryz.prog 79 lo c 1 (VQ Q) ⟨[(1,.lref 1 0),(2,.lref 2 0),(3,.own 100300 14 (x.1.map AB.av)),(6,.own 100600 5 (x.2.1.map AA.av)),(23,.v (.slice .foreign (x.2.2.1.map AA.av))),(24,.v (.i64 x.2.2.2.1)),(25,.v (.i64 x.2.2.2.2.1))],[(1,[.v (.i64 x.2.2.2.2.2.1.Kind),.v (.i64 x.2.2.2.2.2.1.Table),.v (.slice .foreign (x.2.2.2.2.2.1.Kids.map AA.av)),.v (.slice .foreign (x.2.2.2.2.2.1.Conj.map AB.av)),.v (.bool x.2.2.2.2.2.1.Hash)]),(2,[.v (.i64 x.2.2.2.2.2.2.Kind),.v (.i64 x.2.2.2.2.2.2.Table),.own 20000202 5 (x.2.2.2.2.2.2.Kids.map AA.av),.own 20000203 14 (x.2.2.2.2.2.2.Conj.map AB.av),.v (.bool x.2.2.2.2.2.2.Hash)])]⟩)∧PC BQ (fun x r=>Fn Tryz.prog 79 [.agg (AA.C x)] (.agg (AA.C r))):=by
 refine BQ.l1.mutual_partial_correctness _ _ ?_ ?_
 ·intro Jd Xj Iz Va x o h
  have TY:AH Jd _:=⟨Iz⟩
  have AJT:AH Xj _:=⟨Va⟩
  intro lo c Q hb
  refine AJ.step mix ACS (by kernel_rfl) ?_
  simp -implicitDefEqProofs only[go_sem,Tryz.f79]
  exact AN
 ·intro Jd Iz x r h
  have TY:AH Jd _:=⟨Iz⟩
  refine Fn.of_lc mix ACS AKG (by rfl) (flC (AA.flatC _) (flN)) (AA.flatC _) ?_
  simp -implicitDefEqProofs only[go_sem,Tryz.f79]
  exact AN
instance BQ.w:type_of% (AH.mk BQ.l1.ws.2):=⟨BQ.l1.ws.2⟩
end
section
@[go_sem] theorem AO6:lrp Tryz.prog 15 6=(12,[]):=by kernel_rfl
theorem ALa:okF Tryz.f15=true:=by kernel_rfl
mutual
def Cg.l0 (x:Int × AA × AA):Option (Lp (Unit) (Bool)) :=
 if(decide (x.1<(x.2.1.Kids.length:Int)))=true then
  (AX x.2.1.Kids x.1)>>=fun (e10:AA) =>
  (AX x.2.2.Kids x.1)>>=fun (e12:AA) =>
  Cg (e10,e12)>>=fun r14 =>
  if r14=true then
   Cg.l0 ((w64 (x.1+1)),x.2.1,x.2.2)
  else
   some (.ret false)
 else
  some (.brk ())
 partial_fixpoint
def Cg (x:AA × AA):Option (Bool) :=
 if(x.1.Kind != x.2.Kind)=true then
  some false
 else
  if(x.1.Table != x.2.Table)=true then
   some false
  else
   if x.1.Hash=true then
    if x.2.Hash=true then
     if((x.1.Kids.length:Int) != (x.2.Kids.length:Int))=true then
      some false
     else
      CG (x.1.Conj,x.2.Conj)>>=fun r6 =>
      if r6=true then
       Cg.l0 (0,x.1,x.2)>>=fun (o17:Lp (Unit) (Bool))=>match o17 with
       | .brk s20 =>
        some true
       | .ret r19 =>
        some r19
      else
       some false
    else
     some false
   else
    if x.2.Hash=true then
     some false
    else
     if((x.1.Kids.length:Int) != (x.2.Kids.length:Int))=true then
      some false
     else
      CG (x.1.Conj,x.2.Conj)>>=fun r23 =>
      if r23=true then
       Cg.l0 (0,x.1,x.2)>>=fun (o26:Lp (Unit) (Bool))=>match o26 with
       | .brk s29 =>
        some true
       | .ret r28 =>
        some r28
      else
       some false
 partial_fixpoint
end
theorem Cg.l0.ws:PC Cg.l0 (fun x o=>∀ lo c (Q:EP) (hb:∀ s:Unit,o=Lp.brk s→Q (.exit 0) ⟨[],[]⟩) (hr:∀ (r:Bool) (L:AM),o=.ret r→DO Tryz.prog [.tmp 4] (.bool r) (fun _=>True) .ret L→Q .ret L),AJ Tryz.prog 15 lo c 0 (VQ Q) ⟨[(2,.lref 2 0),(3,.lref 3 0),(5,.v (.i64 x.1))],[(2,[.v (.i64 x.2.1.Kind),.v (.i64 x.2.1.Table),.v (.slice .foreign (x.2.1.Kids.map AA.av)),.v (.slice .foreign (x.2.1.Conj.map AB.av)),.v (.bool x.2.1.Hash)]),(3,[.v (.i64 x.2.2.Kind),.v (.i64 x.2.2.Table),.v (.slice .foreign (x.2.2.Kids.map AA.av)),.v (.slice .foreign (x.2.2.Conj.map AB.av)),.v (.bool x.2.2.Hash)])]⟩)∧PC Cg (fun x r=>Fn Tryz.prog 15 [.agg (AA.C x.1),.agg (AA.C x.2)] (.bool r)):=by
 refine Cg.l0.mutual_partial_correctness _ _ ?_ ?_
 ·intro Iy Vj IJ Uk x o h
  have Rq:AH Iy _:=⟨IJ⟩
  have AH1:AH Vj _:=⟨Uk⟩
  intro lo c Q hb hr
  refine AJ.step mix AG3 (by kernel_rfl) ?_
  simp -implicitDefEqProofs only[go_sem,Tryz.f15]
  exact AN
 ·intro Iy IJ x r h
  have Rq:AH Iy _:=⟨IJ⟩
  refine Fn.of_lc mix AG3 ALa (by rfl) (flC (AA.flatC _) (flC (AA.flatC _) (flN))) (.atom _) ?_
  simp -implicitDefEqProofs only[go_sem,Tryz.f15]
  exact AN
instance Cg.w:type_of% (AH.mk Cg.l0.ws.2):=⟨Cg.l0.ws.2⟩
end
section
theorem AA3 {α:Type} (pre:List α) (x:α) (post:List α):AX (pre++x :: post) (pre.length:Int)=some x:=by
 rw[Ag (by rw[List.length_append,List.length_cons];omega)]
 congr 1
 rw[List.getElem_append_right (by omega)]
 simp
theorem RF {α:Type} (pre:List α) (x:α):(pre++[x]).length=pre.length+1:=by rw[List.length_append];rfl
theorem AHt (z1 z2:AA):∀ (post pre:List AB),pre.length+post.length≤1000000→(∀ p∈post,p.size≤1000000) →
  BQ.l0 (pre,pre++post,((pre++post).length:Int),(pre.length:Int),z1,z2)=some (pre++post):=by
 intro post
 induction post with
 | nil=>intro pre _ _;rw[List.append_nil,BQ.l0,if_neg (dge (by dsimp only;omega))]
 | cons p post ih =>
  intro pre hl hs
  simp only[List.length_cons] at hl
  have hlen:(pre++p :: post).length=pre.length+(post.length+1):=by rw[List.length_append];rfl
  have h0:=ih (pre++[p]) (by rw[RF];omega) (fun x hx=>hs x (List.mem_cons_of_mem _ hx))
  rw[RF,List.append_assoc] at h0
  rw[BQ.l0,if_pos (dlt (by dsimp only;omega))]
  dsimp only
  rw[AA3]
  simp -implicitDefEqProofs only[Option.bind_eq_bind,Option.bind_some]
  rw[ME p (hs p List.mem_cons_self)]
  simp -implicitDefEqProofs only[Option.bind_some]
  rw[Bp (by simp only[List.length_cons,List.length_nil];omega),AU (by omega)]
  exact h0
theorem GY (t:AA):t.size≤1000000→BQ t=some t:=by
 induction t using AA.induct with
 | h t ih =>
  intro hsz
  have hk:=MQ t
  have hc:=Kc t
  have key:∀ (o8:List AB) (z1 z2:AA) (post pre:List AA),pre.length+post.length≤1000000→(∀ y∈post,y∈t.Kids) →
    BQ.l1 (o8,pre,pre++post,((pre++post).length:Int),(pre.length:Int),z1,z2)=some (pre++post):=by
   intro o8 z1 z2 post
   induction post with
   | nil=>intro pre _ _;rw[List.append_nil,BQ.l1,if_neg (dge (by dsimp only;omega))]
   | cons p post ih2 =>
    intro pre hl hs
    simp only[List.length_cons] at hl
    have hlen:(pre++p :: post).length=pre.length+(post.length+1):=by rw[List.length_append];rfl
    have h0:=ih2 (pre++[p]) (by rw[RF];omega) (fun x hx=>hs x (List.mem_cons_of_mem _ hx))
    rw[RF,List.append_assoc] at h0
    have hp:=hs p List.mem_cons_self
    have hps:=Cc hp
    rw[BQ.l1,if_pos (dlt (by dsimp only;omega))]
    dsimp only
    rw[AA3]
    simp -implicitDefEqProofs only[Option.bind_eq_bind,Option.bind_some]
    rw[ih p hp (by omega)]
    simp -implicitDefEqProofs only[Option.bind_some]
    rw[Bp (by simp only[List.length_cons,List.length_nil];omega),AU (by omega)]
    exact h0
  have hps:∀ p∈t.Conj,p.size≤1000000:=fun p hp=>by have:=Ju hp;omega
  have e0:=AHt t ⟨0,0,[],[],false⟩ t.Conj [] (by simp;omega) hps
  have e1:=key t.Conj t ⟨0,0,[],[],false⟩ t.Kids [] (by simp;omega) (fun y hy=>hy)
  simp only[List.nil_append,List.length_nil] at e0 e1
  rw[show ((0:Nat):Int)=0 from rfl] at e0 e1
  rw[BQ,e0]
  simp -implicitDefEqProofs only[Option.bind_eq_bind,Option.bind_some]
  rw[e1]
  obtain⟨a,b,c,d,e⟩:=t
  rfl
theorem KD (t:AA):t.size≤1000000→Cg (t,t)=some true:=by
 induction t using AA.induct with
 | h t ih =>
  intro hsz
  have hk:=MQ t
  have hc:=Kc t
  have key:∀ n i,t.Kids.length - i=n→i≤t.Kids.length→Cg.l0 ((i:Int),t,t)=some (.brk ()):=by
   intro n
   induction n with
   | zero=>intro i h1 h2;rw[Cg.l0,if_neg (dge (by dsimp only;omega))]
   | succ n ihn =>
    intro i h1 h2
    have hi:i<t.Kids.length:=by omega
    rw[Cg.l0,if_pos (dlt (by dsimp only;omega))]
    dsimp only
    rw[Ag hi]
    simp -implicitDefEqProofs only[Option.bind_eq_bind,Option.bind_some]
    have hm:=List.getElem_mem hi
    have hs2:=Cc hm
    rw[ih _ hm (by omega)]
    simp -implicitDefEqProofs only[Option.bind_some]
    rw[if_pos trivial,AU (by omega)]
    exact ihn (i+1) (by omega) (by omega)
  have h0:=key t.Kids.length 0 (by omega) (by omega)
  rw[show ((0:Nat):Int)=0 from rfl] at h0
  rw[Cg]
  dsimp only
  rw[if_neg (by simp),if_neg (by simp),Xp _ _ (by omega) (fun p hp=>by have:=Ju hp;omega),h0]
  cases t.Hash with
  | true=>rw[if_pos rfl,if_pos rfl,if_neg (by simp)];simp
  | false=>rw[if_neg (by simp),if_neg (by simp),if_neg (by simp)];simp
end
section
theorem AJo:okF Tryz.f88=true:=by kernel_rfl
def Di (x:AC):Option (Int) :=
 some (w64 ((BitVec.ofInt 64 (w64 (((((((((((((x >>> (1#64).toNat)&&&6148914691236517205#64)+(x&&&6148914691236517205#64)) >>> (2#64).toNat)&&&3689348814741910323#64)+((((x >>> (1#64).toNat)&&&6148914691236517205#64)+(x&&&6148914691236517205#64))&&&3689348814741910323#64)) >>> (4#64).toNat)+((((((x >>> (1#64).toNat)&&&6148914691236517205#64)+(x&&&6148914691236517205#64)) >>> (2#64).toNat)&&&3689348814741910323#64)+((((x >>> (1#64).toNat)&&&6148914691236517205#64)+(x&&&6148914691236517205#64))&&&3689348814741910323#64)))&&&1085102592571150095#64)+((((((((((x >>> (1#64).toNat)&&&6148914691236517205#64)+(x&&&6148914691236517205#64)) >>> (2#64).toNat)&&&3689348814741910323#64)+((((x >>> (1#64).toNat)&&&6148914691236517205#64)+(x&&&6148914691236517205#64))&&&3689348814741910323#64)) >>> (4#64).toNat)+((((((x >>> (1#64).toNat)&&&6148914691236517205#64)+(x&&&6148914691236517205#64)) >>> (2#64).toNat)&&&3689348814741910323#64)+((((x >>> (1#64).toNat)&&&6148914691236517205#64)+(x&&&6148914691236517205#64))&&&3689348814741910323#64)))&&&1085102592571150095#64) >>> (8#64).toNat))+(((((((((((x >>> (1#64).toNat)&&&6148914691236517205#64)+(x&&&6148914691236517205#64)) >>> (2#64).toNat)&&&3689348814741910323#64)+((((x >>> (1#64).toNat)&&&6148914691236517205#64)+(x&&&6148914691236517205#64))&&&3689348814741910323#64)) >>> (4#64).toNat)+((((((x >>> (1#64).toNat)&&&6148914691236517205#64)+(x&&&6148914691236517205#64)) >>> (2#64).toNat)&&&3689348814741910323#64)+((((x >>> (1#64).toNat)&&&6148914691236517205#64)+(x&&&6148914691236517205#64))&&&3689348814741910323#64)))&&&1085102592571150095#64)+((((((((((x >>> (1#64).toNat)&&&6148914691236517205#64)+(x&&&6148914691236517205#64)) >>> (2#64).toNat)&&&3689348814741910323#64)+((((x >>> (1#64).toNat)&&&6148914691236517205#64)+(x&&&6148914691236517205#64))&&&3689348814741910323#64)) >>> (4#64).toNat)+((((((x >>> (1#64).toNat)&&&6148914691236517205#64)+(x&&&6148914691236517205#64)) >>> (2#64).toNat)&&&3689348814741910323#64)+((((x >>> (1#64).toNat)&&&6148914691236517205#64)+(x&&&6148914691236517205#64))&&&3689348814741910323#64)))&&&1085102592571150095#64) >>> (8#64).toNat)) >>> (16#64).toNat))+((((((((((((x >>> (1#64).toNat)&&&6148914691236517205#64)+(x&&&6148914691236517205#64)) >>> (2#64).toNat)&&&3689348814741910323#64)+((((x >>> (1#64).toNat)&&&6148914691236517205#64)+(x&&&6148914691236517205#64))&&&3689348814741910323#64)) >>> (4#64).toNat)+((((((x >>> (1#64).toNat)&&&6148914691236517205#64)+(x&&&6148914691236517205#64)) >>> (2#64).toNat)&&&3689348814741910323#64)+((((x >>> (1#64).toNat)&&&6148914691236517205#64)+(x&&&6148914691236517205#64))&&&3689348814741910323#64)))&&&1085102592571150095#64)+((((((((((x >>> (1#64).toNat)&&&6148914691236517205#64)+(x&&&6148914691236517205#64)) >>> (2#64).toNat)&&&3689348814741910323#64)+((((x >>> (1#64).toNat)&&&6148914691236517205#64)+(x&&&6148914691236517205#64))&&&3689348814741910323#64)) >>> (4#64).toNat)+((((((x >>> (1#64).toNat)&&&6148914691236517205#64)+(x&&&6148914691236517205#64)) >>> (2#64).toNat)&&&3689348814741910323#64)+((((x >>> (1#64).toNat)&&&6148914691236517205#64)+(x&&&6148914691236517205#64))&&&3689348814741910323#64)))&&&1085102592571150095#64) >>> (8#64).toNat))+(((((((((((x >>> (1#64).toNat)&&&6148914691236517205#64)+(x&&&6148914691236517205#64)) >>> (2#64).toNat)&&&3689348814741910323#64)+((((x >>> (1#64).toNat)&&&6148914691236517205#64)+(x&&&6148914691236517205#64))&&&3689348814741910323#64)) >>> (4#64).toNat)+((((((x >>> (1#64).toNat)&&&6148914691236517205#64)+(x&&&6148914691236517205#64)) >>> (2#64).toNat)&&&3689348814741910323#64)+((((x >>> (1#64).toNat)&&&6148914691236517205#64)+(x&&&6148914691236517205#64))&&&3689348814741910323#64)))&&&1085102592571150095#64)+((((((((((x >>> (1#64).toNat)&&&6148914691236517205#64)+(x&&&6148914691236517205#64)) >>> (2#64).toNat)&&&3689348814741910323#64)+((((x >>> (1#64).toNat)&&&6148914691236517205#64)+(x&&&6148914691236517205#64))&&&3689348814741910323#64)) >>> (4#64).toNat)+((((((x >>> (1#64).toNat)&&&6148914691236517205#64)+(x&&&6148914691236517205#64)) >>> (2#64).toNat)&&&3689348814741910323#64)+((((x >>> (1#64).toNat)&&&6148914691236517205#64)+(x&&&6148914691236517205#64))&&&3689348814741910323#64)))&&&1085102592571150095#64) >>> (8#64).toNat)) >>> (16#64).toNat)) >>> (32#64).toNat)).toNat:Int))&&&BitVec.ofInt 64 127).toNat:Int))
instance Di.w:AH Di (fun x r=>Fn Tryz.prog 88 [.w x] (.i64 r)):=⟨by
 intro x r h
 rw[Di] at h
 try dsimp only
 refine Fn.of_lc mix ANC AJo (by rfl) (flC (.atom _) (flN)) (.atom _) ?_
 simp -implicitDefEqProofs only[go_sem,Tryz.f88]
 exact AN⟩
end
section
theorem AL3:okF Tryz.f50=true:=by kernel_rfl
def Gb (x:AC):Option (Int) :=
 Di x>>=fun r1 =>
 some r1
instance Gb.w:AH Gb (fun x r=>Fn Tryz.prog 50 [.w x] (.i64 r)):=⟨by
 intro x r h
 rw[Gb] at h
 try dsimp only
 refine Fn.of_lc mix ANP AL3 (by rfl) (flC (.atom _) (flN)) (.atom _) ?_
 simp -implicitDefEqProofs only[go_sem,Tryz.f50]
 exact AN⟩
end
end Go.Proofs.YtjnnhjgjecgomaaGreat.G
