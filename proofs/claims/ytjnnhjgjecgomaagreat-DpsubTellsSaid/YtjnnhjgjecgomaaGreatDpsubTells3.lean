/-
Part 3 of the proof of DpsubTells: merged by mkclaim.py (a program of this repo) out of texts of wip/g and printed models.
-/
import Derived.Test.YtjnnhjgjecgomaaGreatDpsubTells2
set_option linter.unusedVariables false
set_option linter.unusedSectionVars false
set_option linter.unusedSimpArgs false
set_option maxRecDepth 20000
set_option maxHeartbeats 8000000
namespace Go.Proofs.YtjnnhjgjecgomaaGreat.G
section
variable [Mu]
section
variable {P:Program} {fr:Fro} {ℓ:Nat→Nat} {ρ:Nat→Own} {c:FM} {L:AM} {env:List AV} {m:Mem}
theorem FH.imp {ℓ ℓ':Nat→Nat} {ρ ρ':Nat→Own} {cs ds:List CV} {b:Ck} (h:FH ℓ ρ cs b) (h1:∀ as_,Cs ℓ ρ cs as_→Cs ℓ' ρ' ds as_) (h2:∀ es,cs=[.mp es]→ds=[.mp es]):FH ℓ' ρ' ds b:=by
 cases b with
 | cells as_=>exact h1 as_ h
 | map es clock=>exact h2 _ h
 | loop=>exact h
theorem FH.nomp {ℓ:Nat→Nat} {ρ:Nat→Own} {cs:List CV} {b:Ck} (h:FH ℓ ρ cs b) (hm:isMp cs=false):∃ as_,b=.cells as_∧Cs ℓ ρ cs as_:=by
 cases b with
 | cells as_=>exact⟨as_,rfl,h⟩
 | map es clock =>
  simp only[FH] at h
  subst h
  cases hm
 | loop=>exact h.elim
theorem FH.mp {ℓ:Nat→Nat} {ρ:Nat→Own} {cs:List CV} {b:Ck} {es:List (Value × AV)} (h:FH ℓ ρ cs b) (hm:OS cs=some es):∃ ents clock,b=.map ents clock∧es=ents.map fun e=>(e.1,e.2.1):=by
 cases b with
 | cells as_ =>
  exfalso
  cases cs with
  | nil=>cases hm
  | cons c cs =>
   cases c <;> simp only[OS] at hm <;> try cases hm
   obtain⟨h1,h2⟩:=h
   cases as_ with
   | nil=>simp at h1
   | cons a as_=>exact h2 0 _ a rfl rfl
 | map ents clock =>
  simp only[FH] at h
  subst h
  simp only[OS] at hm
  injection hm with hm
  exact⟨ents,clock,rfl,hm.symm⟩
 | loop=>exact h.elim
theorem AAK (i s:Nat) (o:Own) (es:List AV):(BZ i s o es).cells=[BZ i s o es]:=by unfold BZ;split <;> (try cases o) <;> rfl
theorem Vl (i s:Nat) (o:Own) (es:List AV):Bj (BZ i s o es)=true:=by unfold BZ;split <;> (try cases o) <;> rfl
theorem XA {i s:Nat} {es:List AV}:∀ {cs:List CV},My i cs=some (s,es)→CV.own i s es∈cs:=by
 intro cs
 induction cs with
 | nil=>intro h;cases h
 | cons x l ih =>
  intro h
  cases x with
  | own j s' es' =>
   simp only[My] at h
   split at h
   ·rename_i e;subst e;injection h with h;injection h with h1 h2;subst h1 h2;exact List.mem_cons_self
   ·exact List.mem_cons_of_mem _ (ih h)
  | _=>exact List.mem_cons_of_mem _ (ih h)
theorem ACr {i s:Nat} {es:List AV}:∀ {N:List (Nat × List CV)} {seen:List Nat},Nw i seen N=some (s,es)→∃ t cs,seen.contains t=false∧AI N t=some cs∧CV.own i s es∈cs:=by
 intro N
 induction N with
 | nil=>intro seen h;cases h
 | cons x l ih =>
  obtain⟨t0,c0⟩:=x
  intro seen h
  simp only[Nw] at h
  have rest:Nw i (t0 :: seen) l=some (s,es)→∃ t cs,seen.contains t=false∧AI ((t0,c0) :: l) t=some cs∧CV.own i s es∈cs:=by
   intro h
   obtain⟨t,cs,h1,h2,h3⟩:=ih h
   simp only[List.contains_cons,Bool.or_eq_false_iff,beq_eq_false_iff_ne] at h1
   refine⟨t,cs,h1.2,?_,h3⟩
   simp only[AI]
   rw[if_neg (fun e=>h1.1 e.symm)];exact h2
  by_cases hs:seen.contains t0=true
  ·rw[if_pos hs] at h
   exact rest h
  ·rw[if_neg hs] at h
   cases hc:My i c0 with
   | some p =>
    rw[hc] at h
    simp only[Option.or] at h
    injection h with h;subst h
    exact⟨t0,c0,by simpa using hs,by simp[AI],XA hc⟩
   | none =>
    rw[hc] at h
    exact rest h
theorem AEC {i s:Nat} {es:List AV} {v:LV} (h:Ts i v=some (s,es)):v.has i s es:=by
 cases v <;> simp only[Ts] at h <;> try cases h
 ·split at h
  ·rename_i e;subst e;injection h with h;injection h with h1 h2;subst h1 h2;exact⟨rfl,rfl,rfl⟩
  ·cases h
 ·exact XA h
theorem ADi {i s:Nat} {es:List AV}:∀ {S:List (Nat × LV)} {seen:List Nat},RO i seen S=some (s,es)→∃ t v,seen.contains t=false∧AI S t=some v∧v.has i s es:=by
 intro S
 induction S with
 | nil=>intro seen h;cases h
 | cons x l ih =>
  obtain⟨t0,c0⟩:=x
  intro seen h
  simp only[RO] at h
  have rest:RO i (t0 :: seen) l=some (s,es)→∃ t cs,seen.contains t=false∧AI ((t0,c0) :: l) t=some cs∧cs.has i s es:=by
   intro h
   obtain⟨t,cs,h1,h2,h3⟩:=ih h
   simp only[List.contains_cons,Bool.or_eq_false_iff,beq_eq_false_iff_ne] at h1
   refine⟨t,cs,h1.2,?_,h3⟩
   simp only[AI]
   rw[if_neg (fun e=>h1.1 e.symm)];exact h2
  by_cases hs:seen.contains t0=true
  ·rw[if_pos hs] at h
   exact rest h
  ·rw[if_neg hs] at h
   cases hc:Ts i c0 with
   | some p =>
    rw[hc] at h
    simp only[Option.or] at h
    injection h with h;subst h
    exact⟨t0,c0,by simpa using hs,by simp[AI],AEC hc⟩
   | none =>
    rw[hc] at h
    exact rest h
theorem QB {i s:Nat} {es:List AV} {L:AM} (h:La i L=some (s,es)):Vis L i s es:=by
 unfold La at h
 cases hn:Nw i [] L.N with
 | some p =>
  rw[hn] at h
  simp only[Option.or] at h
  injection h with h;subst h
  obtain⟨t0,cs,_,g1,g2⟩:=ACr hn
  exact .inr ⟨t0,cs,g1,g2⟩
 | none =>
  rw[hn] at h
  obtain⟨t0,v,_,g1,g2⟩:=ADi (S:=L.S) h
  exact .inl ⟨t0,v,g1,g2⟩
theorem Wu {i s:Nat} {es:List AV} {t:Nat}:∀ {S:List (Nat × LV)},AI (Zs i s es S) t=(AI S t).map (LV.upd i s es):=by
 intro S
 induction S with
 | nil=>rfl
 | cons x l ih =>
  obtain⟨t0,v0⟩:=x
  simp only[Zs,AI]
  split
  ·rfl
  ·exact ih
theorem NC {i s:Nat} {es:List AV} {t:Nat}:∀ {N:List (Nat × List CV)},AI (YJ i s es N) t=(AI N t).map fun cs=>cs.map (CV.upd i s es):=by
 intro N
 induction N with
 | nil=>rfl
 | cons x l ih =>
  obtain⟨t0,v0⟩:=x
  simp only[YJ,AI]
  split
  ·rfl
  ·exact ih
theorem AA4 {i s j s':Nat} {es es':List AV} {cs:List CV} (h:CV.own j s' es'∈cs.map (CV.upd i s es)):(j=i∧s'=s∧es'=es∧∃ es2,CV.own i s es2∈cs)∨(j≠i∧CV.own j s' es'∈cs):=by
 obtain⟨x,hx,e⟩:=List.mem_map.1 h
 cases x with
 | own j2 s2 es2 =>
  simp only[CV.upd] at e
  split at e
  ·rename_i e1
   split at e
   ·rename_i e2
    injection e with e3 e4 e5
    subst e1 e2 e3 e4 e5
    exact .inl ⟨rfl,rfl,rfl,es2,hx⟩
   ·cases e
  ·rename_i e1
   injection e with e3 e4 e5
   subst e3 e4 e5
   exact .inr ⟨e1,hx⟩
 | _=>cases e
theorem WW {i s j s':Nat} {es es':List AV} (h:Vis (KM i s es L) j s' es'):(j=i∧s'=s∧es'=es∧∃ es2,Vis L i s es2)∨(j≠i∧Vis L j s' es'):=by
 rcases h with⟨t,u,h1,h2⟩|⟨t,cs,h1,h2⟩
 ·simp only[KM,Wu] at h1
  obtain⟨v,hv,rfl⟩:=Option.map_eq_some_iff.1 h1
  cases v with
  | own j2 s2 es2 =>
   simp only[LV.upd] at h2
   split at h2
   ·rename_i e1
    split at h2
    ·rename_i e2
     obtain⟨rfl,rfl,rfl⟩:=h2
     exact .inl ⟨e1,e2,rfl,es2,.inl ⟨t,_,hv,e1,e2,rfl⟩⟩
    ·exact h2.elim
   ·rename_i e1
    obtain⟨rfl,rfl,rfl⟩:=h2
    exact .inr ⟨e1,.inl ⟨t,_,hv,rfl,rfl,rfl⟩⟩
  | ag cs =>
   rcases AA4 h2 with⟨e1,e2,e3,es2,h3⟩|⟨e1,h3⟩
   ·exact .inl ⟨e1,e2,e3,es2,.inl ⟨t,_,hv,h3⟩⟩
   ·exact .inr ⟨e1,.inl ⟨t,_,hv,h3⟩⟩
  | _=>exact h2.elim
 ·simp only[KM,NC] at h1
  obtain⟨ds,hv,rfl⟩:=Option.map_eq_some_iff.1 h1
  rcases AA4 h2 with⟨e1,e2,e3,es2,h3⟩|⟨e1,h3⟩
  ·exact .inl ⟨e1,e2,e3,es2,.inr ⟨t,_,hv,h3⟩⟩
  ·exact .inr ⟨e1,.inr ⟨t,_,hv,h3⟩⟩
theorem Bt.vrow {R:List (Option (Nat × List AV))} {i id s:Nat} {es:List AV} (h:Bt R i (.row id) s es) (hi:isV i=true):R[id]?=some (some (0,flatC es))∧(∀ e∈es,e.cells.length=s)∧0<s:=by
 unfold Bt at h
 rw[if_pos hi] at h
 rcases h with⟨h,_⟩|⟨id',h1,h2,h3,h4⟩
 ·cases h
 ·injection h1 with h1;subst h1;exact⟨h2,h3,h4⟩
theorem BP.turn (h:BP P fr ℓ ρ c L env m) {i s id:Nat} {es es1:List AV} (hv:Vis L i s es) (hi:isV i=true) (hid:ρ i=.row id) (hl:es1.length=es.length) (he:∀ e∈es1,e.cells.length=s):BP P fr ℓ ρ c (KM i s es1 L) env (m.setRow id 0 (flatC es1)):=by
 have hrow:=Bt.vrow (by have:=h.tok i s es hv;rw[hid] at this;exact this) hi
 have hidl:id<m.rows.length:=(List.getElem?_eq_some_iff.1 hrow.1).1
 have same:∀ {es2},Vis L i s es2→es2.length=es.length:=by
  intro es2 h2
  have h3:=Bt.vrow (by have:=h.tok i s es2 h2;rw[hid] at this;exact this) hi
  have h4:=h3.1.symm.trans hrow.1
  injection h4 with h4;injection h4 with h4;injection h4 with _ h4
  have h5:=congrArg List.length h4
  rw[Bz h3.2.1,Bz hrow.2.1] at h5
  exact Nat.eq_of_mul_eq_mul_right hrow.2.2 h5
 have own:∀ {s2 es2},Vis L i s2 es2→s2=s→BZ i s2 (ρ i) es2=BZ i s2 (ρ i) es1:=by
  rintro s2 es2 h2 rfl
  simp only[BZ,if_pos hi,hid,hl,same h2]
 have cr:∀ {cs as_},(∀ j s2 es2,CV.own j s2 es2∈cs→Vis L j s2 es2)→Cs ℓ ρ cs as_→Cs ℓ ρ (cs.map (CV.upd i s es1)) as_:=by
  intro cs as_ hvis hc
  refine⟨by simpa using hc.1,fun j x a hj ha=>?_⟩
  rw[List.getElem?_map] at hj
  obtain⟨y,hy,rfl⟩:=Option.map_eq_some_iff.1 hj
  have:=hc.2 j y a hy ha
  cases y with
  | own j2 s2 es2 =>
   simp only[CV.upd]
   split
   ·rename_i e1
    split
    ·rename_i e2
     subst e1
     simp only[EF] at this ⊢
     rw[this,own (hvis _ _ _ (List.mem_of_getElem? hy)) e2]
    ·trivial
   ·exact this
  | _=>exact this
 have hname:∀ {t ds},AI (KM i s es1 L).N t=some ds→∃ cs,AI L.N t=some cs∧ds=cs.map (CV.upd i s es1):=by
  intro t ds hd
  simp only[KM,NC] at hd
  obtain⟨cs,h1,h2⟩:=Option.map_eq_some_iff.1 hd
  exact⟨cs,h1,h2.symm⟩
 refine⟨h.mode,fun t u h1 h2=>?_,fun t ds h1=>?_,fun j s' es' hj=>?_,fun j s' es' k s2 es2 h1 h2 hne=>?_,fun t t' k k' h1 h2 h3=>?_,fun p hp=>?_,fun t k h1=>?_,fun j s' es' hj id' hid'=>?_,?_,h.frame,fun id' x h1 h2=>?_,⟨h.froz.1,fun q hq t k h1=>?_⟩⟩
 ·simp only[KM,Wu] at h1
  obtain⟨v,hv',rfl⟩:=Option.map_eq_some_iff.1 h1
  have hvd:v≠.dead:=by rintro rfl;exact h2 rfl
  obtain⟨a,h3,h4⟩:=h.slot t v hv' hvd
  refine⟨a,h3,?_⟩
  cases v with
  | own j2 s2 es2 =>
   simp only[LV.upd]
   split
   ·rename_i e1
    split
    ·rename_i e2
     subst e1
     simp only[BK] at h4 ⊢
     rw[h4,own (.inl ⟨t,_,hv',rfl,rfl,rfl⟩) e2]
    ·trivial
   ·exact h4
  | ag cs =>
   obtain⟨as_,h5,h6⟩:=h4
   exact⟨as_,h5,cr (fun j s2 es2 hm=>.inl ⟨t,_,hv',hm⟩) h6⟩
  | _=>exact h4
 ·obtain⟨cs,h2,rfl⟩:=hname h1
  obtain⟨b,h3,h4⟩:=h.locs t cs h2
  exact⟨b,h3,h4.imp (fun as_ hc=>cr (fun j s2 es2 hm=>.inr ⟨t,cs,h2,hm⟩) hc) (fun es2 e=>by rw[e];rfl)⟩
 ·rcases WW hj with⟨rfl,rfl,rfl,_⟩|⟨hne,hj⟩
  ·unfold Bt
   rw[if_pos hi]
   exact .inr ⟨id,hid,by simp only[Mem.setRow];rw[List.getElem?_set_self hidl],he,hrow.2.2⟩
  ·refine(h.tok j s' es' hj).mono (fun id' h1 x h2=>?_)
   simp only[Mem.setRow]
   rw[List.getElem?_set_ne ?_]
   ·exact h2
   ·rintro rfl
    rcases h.apart i s es j s' es' hv hj (fun e=>hne e.symm) with h3 | h3
    ·rw[hid] at h3;cases h3
    ·exact h3 (by rw[hid,h1])
 ·have up:∀ {j s' es'},Vis (KM i s es1 L) j s' es'→∃ s2 es2,Vis L j s2 es2:=by
   intro j s' es' hj
   rcases WW hj with⟨rfl,_,_,es2,h5⟩|⟨_,hj⟩
   ·exact⟨_,_,h5⟩
   ·exact⟨_,_,hj⟩
  obtain⟨a1,b1,g1⟩:=up h1
  obtain⟨a2,b2,g2⟩:=up h2
  exact h.apart _ _ _ _ _ _ g1 g2 hne
 ·obtain⟨_,g1,_⟩:=hname h1
  obtain⟨_,g2,_⟩:=hname h2
  exact h.inj _ _ _ _ g1 g2 h3
 ·obtain⟨⟨k,h1⟩,h2⟩:=h.bor p hp
  refine⟨⟨k.map (CV.upd i s es1),?_⟩,h2⟩
  simp only[KM,NC,h1,Option.map_some]
 ·obtain⟨_,g1,_⟩:=hname h1
  exact h.low _ _ g1
 ·rcases WW hj with⟨rfl,_,_,es2,h5⟩|⟨_,hj⟩
  ·exact h.rlow _ _ _ h5 id' hid'
  ·exact h.rlow _ _ _ hj id' hid'
 ·have:=h.len
  simpa [Mem.setRow] using this
 ·simp only[Mem.setRow]
  rw[List.getElem?_set_ne ?_]
  ·exact h.rframe id' x h1 h2
  ·rintro rfl
   rcases h.rlow i s es hv id hid with h3 | h3
   ·have:=(List.getElem?_eq_some_iff.1 h1).1;omega
   ·exact h2 h3
 ·obtain⟨_,g1,_⟩:=hname h1
  exact h.froz.2 q hq _ _ g1
theorem ABX {e e':AV} {off:Nat} {ys:List AV} (h:OR e off ys=some e'):off+ys.length≤e.cells.length∧e'.cells=Ca e.cells off ys:=by
 cases e with
 | agg cs =>
  simp only[OR] at h
  split at h
  ·rename_i hc
   injection h with h;subst h
   exact⟨hc.1,rfl⟩
  ·cases h
 | _ =>
  simp only[OR] at h
  split at h
  ·rename_i y
   split at h
   ·rename_i hc
    injection h with h;subst h
    obtain⟨rfl,_,hy⟩:=hc
    have hyc:y.cells=[y]:=by cases y <;> first | rfl | cases hy
    exact⟨by simp[AV.cells],by rw[hyc];simp[Ca,AV.cells]⟩
   ·cases h
  ·cases h
theorem ABU {A C B ys:List AV} {n off:Nat} (hA:A.length=n) (hy:off+ys.length≤C.length):Ca (A++(C++B)) (n+off) ys=A++(Ca C off ys++B):=by
 subst hA
 unfold Ca
 rw[List.take_append,List.take_of_length_le (by omega),show A.length+off - A.length=off by omega,List.take_append,show off - C.length=0 by omega,List.take_zero,List.append_nil]
 rw[List.drop_append,List.drop_of_length_le (by omega),List.nil_append,show A.length+off+ys.length - A.length=off+ys.length by omega,List.drop_append,show off+ys.length - C.length=0 by omega,List.drop_zero]
 simp[List.append_assoc]
theorem AEH {es:List AV} {s k off:Nat} {e e':AV} {ys:List AV} (hs:∀ e∈es,e.cells.length=s) (hk:es[k]?=some e) (hy:off+ys.length≤e.cells.length) (he:e'.cells=Ca e.cells off ys):flatC (es.set k e')=Ca (flatC es) (k * s+off) ys∧k * s+off+ys.length≤(flatC es).length:=by
 obtain⟨hkl,hke⟩:=List.getElem?_eq_some_iff.1 hk
 have hes:e.cells.length=s:=hs e (List.mem_of_getElem? hk)
 have e1:es=es.take k++e :: es.drop (k+1):=by
  conv=>lhs;rw[← List.take_append_drop k es,List.drop_eq_getElem_cons hkl,hke]
 have e2:es.set k e'=es.take k++e' :: es.drop (k+1):=List.set_eq_take_append_cons_drop.trans (if_pos hkl)
 have hlen:(flatC (es.take k)).length=k * s:=by
  rw[Bz (fun e h=>hs e (List.mem_of_mem_take h)),List.length_take,Nat.min_eq_left (by omega)]
 have f1:flatC es=flatC (es.take k)++(e.cells++flatC (es.drop (k+1))):=by
  conv=>lhs;rw[e1]
  simp[flatC]
 have f2:flatC (es.set k e')=flatC (es.take k)++(e'.cells++flatC (es.drop (k+1))):=by
  rw[e2];simp[flatC]
 have f3:k * s+off+ys.length≤(flatC es).length:=by
  rw[f1,List.length_append,List.length_append,hlen];omega
 refine⟨?_,f3⟩
 rw[f2,he]
 rw[f1]
 exact(ABU hlen hy).symm
def LV.plain:LV→Bool
 | .dead=>false
 | _=>true
theorem BP.levalA (h:BP P fr ℓ ρ c L env m) {x:Operand} {v:LV} (hx:levalA L x=some v):v.plain=true∧(∃ a,BF env x=some a∧BK P fr ℓ ρ v a)∧∀ i s es,v.has i s es→Vis L i s es:=by
 cases x with
 | tmp t =>
  simp only[G.levalA] at hx
  obtain⟨u,h1,h2⟩:=AE hx
  have hd:u≠.dead:=by rintro rfl;cases h2
  obtain⟨a,h3,h4⟩:=h.slot t u h1 hd
  have e:u=v:=by cases u <;> simp only[LV.any] at h2 <;> first | exact absurd rfl hd | (injection h2)
  subst e
  exact⟨by cases u <;> first | rfl | exact absurd rfl hd,⟨a,h3,h4⟩,fun i s es hh=>.inl ⟨t,_,h1,hh⟩⟩
 | const v =>
  simp only[G.levalA] at hx
  cases hc:Ez v with
  | none=>rw[hc] at hx;cases hx
  | some a=>rw[hc] at hx;injection hx with hx;subst hx;exact⟨rfl,⟨a,hc,rfl⟩,fun i s es hh=>hh.elim⟩
 | func f =>
  simp only[G.levalA] at hx
  injection hx with hx;subst hx
  exact⟨rfl,⟨_,rfl,rfl⟩,fun i s es hh=>hh.elim⟩
 | global k =>
  simp only[G.levalA] at hx
  cases hc:Kl k with
  | none=>rw[hc] at hx;cases hx
  | some a=>rw[hc] at hx;injection hx with hx;subst hx;exact⟨rfl,⟨a,hc,rfl⟩,fun i s es hh=>hh.elim⟩
theorem Eu {dst:Option Tmp} {v:LV}:(FR L dst v).N=L.N:=by cases dst <;> rfl
theorem Hv {dst:Option Tmp} {v:LV} {t:Nat} (h:dst≠some t):AI (FR L dst v).S t=AI L.S t:=by
 cases dst with
 | none=>rfl
 | some d=>simp only[FR,AI];rw[if_neg (by rintro rfl;exact h rfl)]
theorem Gm {d:Nat} {v:LV}:AI (FR L (some d) v).S d=some v:=by simp[FR,AI]
theorem RV {dst:Option Tmp} {v:LV} {i s:Nat} {es:List AV} (hv:∀ i s es,v.has i s es→Vis L i s es) (h:Vis (FR L dst v) i s es):Vis L i s es:=by
 rcases h with⟨t,u,h1,h2⟩|⟨t,cs,h1,h2⟩
 ·by_cases e:dst=some t
  ·subst e
   rw[Gm] at h1
   injection h1 with h1;subst h1;exact hv _ _ _ h2
  ·rw[Hv e] at h1;exact .inl ⟨t,u,h1,h2⟩
 ·rw[Eu] at h1;exact .inr ⟨t,cs,h1,h2⟩
theorem TJ {dst:Option Tmp} {d a:AV} {t:Nat} (h:dst≠some t) (ha:env[t]?=some a):(DS env dst d)[t]?=some a:=by
 cases dst with
 | none=>exact ha
 | some t'=>simp only[DS];rw[List.getElem?_set_ne (by rintro rfl;exact h rfl)];exact ha
def Hj (env:List AV) (dst:Option Tmp):Prop:=∀ t,dst=some t→t<env.length
theorem BP.put (h:BP P fr ℓ ρ c L env m) {dst:Option Tmp} {v:LV} {a:AV} (hv:BK P fr ℓ ρ v a) (hh:∀ i s es,v.has i s es→Vis L i s es) (hd:Hj env dst):BP P fr ℓ ρ c (FR L dst v) (DS env dst a) m where
 mode:=h.mode
 slot:=fun t u h1 h2=>by
  by_cases e:dst=some t
  ·subst e
   rw[Gm] at h1
   injection h1 with h1;subst h1
   exact⟨a,by simp only[DS];rw[List.getElem?_set_self (hd t rfl)],hv⟩
  ·rw[Hv e] at h1
   obtain⟨b,h3,h4⟩:=h.slot t u h1 h2
   exact⟨b,TJ e h3,h4⟩
 locs:=fun t cs h1=>by rw[Eu] at h1;exact h.locs t cs h1
 tok:=fun i s es hx=>h.tok i s es (RV hh hx)
 apart:=fun i s es j s' es' h1 h2=>h.apart i s es j s' es' (RV hh h1) (RV hh h2)
 inj:=fun t t' cs cs' h1 h2=>by rw[Eu] at h1 h2;exact h.inj t t' cs cs' h1 h2
 bor:=fun p hp=>by rw[Eu];exact h.bor p hp
 low:=fun t cs h1=>by rw[Eu] at h1;exact h.low t cs h1
 rlow:=fun i s es hx=>h.rlow i s es (RV hh hx)
 len:=h.len
 frame:=h.frame
 rframe:=h.rframe
 froz:=⟨h.froz.1,fun q hq t cs h1=>by rw[Eu] at h1;exact h.froz.2 q hq t cs h1⟩
def Cu (P:Program) (ℓ:Nat→Nat) (c:FM) (L:AM) (env:List AV) (m:Mem) (op:Op) (dst:Option Tmp) (pos:Fu) (v:LV) (L1:AM) (pd:List Nat):Prop :=
 ∃ d m1 fr' ℓ' ρ',aop P op env m=some (d,m1)∧BP P fr' ℓ' ρ' c (FR L1 dst v) (DS env dst d) m1∧(pos.early=true→Ext m m1) ∧
  (∀ t∈pos.pend,(∃ cs,AI L.N t=some cs)→ℓ' t=ℓ t∧m1.boxes[ℓ t]?=m.boxes[ℓ t]?∧∃ cs,AI L1.N t=some cs) ∧
  (∀ t a,op=.load t a→m1=m∧ℓ'=ℓ∧L1=L∧(pos.late=true→∃ p,BF env a=some p∧Fo P m t p=some d∧((∃ e off,p=.eptr e off)∨∃ t' off,t'∈pd∧p=.ptr (ℓ t') off))∧∀ t'∈pd,∃ cs,AI L.N t'=some cs)
theorem Cu.same (h:BP P fr ℓ ρ c L env m) {op:Op} {dst:Option Tmp} {pos:Fu} {v:LV} {a:AV} {pd:List Nat} (ho:aop P op env m=some (a,m)) (hv:BK P fr ℓ ρ v a) (hh:∀ i s es,v.has i s es→Vis L i s es) (hd:Hj env dst)
  (hl:∀ t x,op=.load t x→(pos.late=true→∃ p,BF env x=some p∧Fo P m t p=some a∧((∃ e off,p=.eptr e off)∨∃ t' off,t'∈pd∧p=.ptr (ℓ t') off))∧∀ t'∈pd,∃ cs,AI L.N t'=some cs):Cu P ℓ c L env m op dst pos v L pd:=by
 refine⟨a,m,fr,ℓ,ρ,ho,h.put hv hh hd,fun _=>Ext.refl _,fun t ht ⟨cs,hc⟩=>⟨rfl,rfl,cs,hc⟩,fun t x e=>⟨rfl,rfl,rfl,hl t x e⟩⟩
theorem Cu.pure (h:BP P fr ℓ ρ c L env m) {op:Op} {dst:Option Tmp} {pos:Fu} {v:LV} {L1:AM} {pd:List Nat} {x:Option AV} (hx:Gi L x=some (v,L1,pd)) (ho:∀ a,x=some a→aop P op env m=some (a,m)) (hnl:∀ t y,op≠.load t y) (hd:Hj env dst):Cu P ℓ c L env m op dst pos v L1 pd:=by
 cases hx':x with
 | none=>rw[hx'] at hx;cases hx
 | some a =>
  rw[hx'] at hx
  simp only[Gi,Option.map_some] at hx
  injection hx with hx;injection hx with h1 h2;injection h2 with h2 h3;subst h1 h2 h3
  exact .same h (ho a hx') rfl (fun i s es hh=>hh.elim) hd (fun t y e=>absurd e (hnl t y))
theorem IN {x:Option LV} {v:LV} {L1:AM} {pd:List Nat} (hx:JR L x=some (v,L1,pd)):x=some v∧L1=L∧pd=[]:=by
 cases x with
 | none=>cases hx
 | some a =>
  simp only[JR,Option.map_some] at hx
  injection hx with hx;injection hx with h1 h2;injection h2 with h2 h3
  exact⟨by rw[h1],h2.symm,h3.symm⟩
theorem AIV {cc:CV} {v:LV} {a:AV} (h:cc.lv=some v) (hr:EF ℓ ρ cc a):BK P fr ℓ ρ v a∧∀ i s es,v.has i s es→cc=.own i s es:=by
 cases cc <;> simp only[CV.lv] at h <;> try cases h
 ·exact⟨hr,fun i s es hh=>hh.elim⟩
 ·exact⟨hr,fun i s es hh=>by obtain⟨rfl,rfl,rfl⟩:=hh;rfl⟩
 ·exact⟨hr,fun i s es hh=>hh.elim⟩
 ·exact⟨hr,fun i s es hh=>hh.elim⟩
 ·exact⟨hr,fun i s es hh=>hh.elim⟩
theorem AAT {cs:List CV} {as_:List AV} (h:Cs ℓ ρ cs as_) (off n:Nat):Cs ℓ ρ ((cs.drop off).take n) ((as_.drop off).take n):=by
 obtain⟨h1,h2⟩:=h
 refine⟨by simp[h1],fun j c a hj ha=>?_⟩
 rw[List.getElem?_take] at hj ha
 split at hj
 ·rw[if_pos (by assumption)] at ha
  rw[List.getElem?_drop] at hj ha
  exact h2 _ c a hj ha
 ·cases hj
theorem AFp {cs:List CV} {as_ l:List AV} (h:Cs ℓ ρ cs as_) (hl:cs.mapM CV.val=some l):as_=l:=by
 induction cs generalizing as_ l with
 | nil=>simp at hl;subst hl;have:=h.1;simpa using this
 | cons c cs ih =>
  simp only[List.mapM_cons,Option.pure_def,Option.bind_eq_bind] at hl
  obtain⟨a,h1,hl⟩:=AE hl
  obtain⟨l2,h2,hl⟩:=AE hl
  injection hl with hl;subst hl
  cases as_ with
  | nil=>have:=h.1;simp at this
  | cons b as_ =>
   have e1:=ih (as_:=as_) ⟨by simpa using h.1,fun j c a hj ha=>h.2 (j+1) c a (by simpa using hj) (by simpa using ha)⟩ h2
   have e2:=h.2 0 c b rfl rfl
   cases c <;> simp only[CV.val] at h1 <;> try cases h1
   simp only[EF] at e2
   rw[e1,e2]
theorem AGM {cs:List CV} {as_:List AV} (h:Cs ℓ ρ cs as_):BK P fr ℓ ρ (ZL cs) (.agg as_)∧∀ i s es,(ZL cs).has i s es→CV.own i s es∈cs:=by
 unfold ZL
 split
 ·rename_i l hl
  exact⟨by(show AV.agg as_=AV.agg l;rw[AFp h hl]),fun i s es hh=>hh.elim⟩
 ·exact⟨⟨as_,rfl,h⟩,fun i s es hh=>hh⟩
theorem RP {t:TypeId} {cs:List CV} {as_:List AV} {off:Nat} {v:LV} (h:VO P t cs off=some v) (hr:Cs ℓ ρ cs as_):∃ a,Fa P t as_ off=some a∧BK P fr ℓ ρ v a∧∀ i s es,v.has i s es→CV.own i s es∈cs:=by
 unfold VO at h
 unfold Fa
 split at h
 ·rename_i n h1 h2
  rw[h1,h2]
  dsimp only
  split at h
  ·rename_i hlt
   injection h with h;subst h
   rw[if_pos (by rw[hr.1];exact hlt)]
   obtain⟨g2,g3⟩:=AGM (P:=P) (fr:=fr) (AAT hr off n)
   exact⟨_,rfl,g2,fun i s es hh=>List.mem_of_mem_drop (List.mem_of_mem_take (g3 i s es hh))⟩
  ·cases h
 ·rename_i n h1 h2
  rw[h1,h2]
  dsimp only
  obtain⟨cc,hc,h⟩:=AE h
  have hlt:=(List.getElem?_eq_some_iff.1 hc).1
  have ha:as_[off]?=some (as_[off]'(by rw[hr.1];exact hlt)):=List.getElem?_eq_getElem _
  obtain⟨g2,g3⟩:=AIV (P:=P) (fr:=fr) h (hr.2 off cc _ hc ha)
  exact⟨_,ha,g2,fun i s es hh=>by rw[← g3 i s es hh];exact List.mem_of_getElem? hc⟩
 ·cases h
theorem Qt {v:LV} {ys:List CV} {a:AV} (h:v.cells=some ys) (hr:BK P fr ℓ ρ v a):Cs ℓ ρ ys a.cells∧Bj a=true∧∀ i s es,CV.own i s es∈ys→v.has i s es:=by
 have one:∀ {x:CV} {b:AV},b.cells=[b]→EF ℓ ρ x b→Cs ℓ ρ [x] b.cells:=by
  intro x b hb hx
  rw[hb]
  refine⟨rfl,fun j c d hj hd=>?_⟩
  cases j with
  | zero=>simp at hj hd;subst hj hd;exact hx
  | succ j=>simp at hj
 cases v <;> simp only[LV.cells] at h <;> try cases h
 ·rename_i x
  split at h
  ·rename_i hn
   injection h with h;subst h
   simp only[BK] at hr;subst hr
   refine⟨⟨by simp,fun j c b hj hb=>?_⟩,hn,fun i s es hh=>by simp at hh⟩
   rw[List.getElem?_map,hb] at hj
   injection hj with hj;subst hj;exact rfl
  ·cases h
 ·simp only[BK] at hr;subst hr
  exact⟨one (AAK _ _ _ _) rfl,Vl _ _ _ _,fun i s es hh=>by simp at hh;obtain⟨rfl,rfl,rfl⟩:=hh;exact⟨rfl,rfl,rfl⟩⟩
 ·obtain⟨as_,rfl,hr⟩:=hr
  exact⟨hr,rfl,fun i s es hh=>hh⟩
 ·split at h
  ·rename_i ho;subst ho
   injection h with h;subst h
   simp only[BK] at hr;subst hr
   exact⟨one rfl rfl,rfl,fun i s es hh=>by simp at hh⟩
  ·cases h
 ·simp only[BK] at hr;subst hr
  exact⟨one rfl rfl,rfl,fun i s es hh=>by simp at hh⟩
 ·simp only[BK] at hr;subst hr
  exact⟨one rfl rfl,rfl,fun i s es hh=>by simp at hh⟩
mutual
theorem LA.free_av {d:Nat} {ℓ ℓ':Nat→Nat} (hℓ:∀ t,t≠d→ℓ' t=ℓ t):∀ {x:LA},LA.free d x=true→LA.av ℓ' x=LA.av ℓ x
 | .a x,_=>rfl
 | .p t,h=>by simp only[LA.free,bne_iff_ne,ne_eq] at h;simp only[LA.av,hℓ t h]
 | .m t,h=>by simp only[LA.free,bne_iff_ne,ne_eq] at h;simp only[LA.av,hℓ t h]
 | .fn f first cap,h=>by
  simp only[LA.free,Bool.and_eq_true] at h
  simp only[LA.av,LAs.free_av hℓ h.1,LAs.free_av hℓ h.2]
theorem LAs.free_av {d:Nat} {ℓ ℓ':Nat→Nat} (hℓ:∀ t,t≠d→ℓ' t=ℓ t):∀ {l:List LA},LAs.free d l=true→LAs.av ℓ' l=LAs.av ℓ l
 | [],_=>rfl
 | x :: l,h=>by
  simp only[LAs.free,Bool.and_eq_true] at h
  simp only[LAs.av,LA.free_av hℓ h.1,LAs.free_av hℓ h.2]
end
theorem AEp {d:Nat} {ℓ':Nat→Nat} (hℓ:∀ t,t≠d→ℓ' t=ℓ t) {x:CV} {a:AV} (hf:x.free d=true) (h:EF ℓ ρ x a):EF ℓ' ρ x a:=by
 cases x with
 | fn f first cap =>
  simp only[CV.free,Bool.and_eq_true] at hf
  simp only[EF] at h ⊢
  rw[LAs.free_av hℓ hf.1,LAs.free_av hℓ hf.2];exact h
 | p t=>simp only[CV.free,bne_iff_ne,ne_eq] at hf;simp only[EF] at h ⊢;rw[hℓ t hf];exact h
 | m t=>simp only[CV.free,bne_iff_ne,ne_eq] at hf;simp only[EF] at h ⊢;rw[hℓ t hf];exact h
 | _=>exact h
theorem CVs.free_mem {d:Nat}:∀ {cs:List CV},CVs.free d cs=true→∀ x∈cs,x.free d=true:=by
 intro cs
 induction cs with
 | nil=>intro _ x hx;cases hx
 | cons y l ih =>
  intro h x hx
  simp only[CVs.free,Bool.and_eq_true] at h
  rcases List.mem_cons.1 hx with rfl | hx
  ·exact h.1
  ·exact ih h.2 x hx
theorem Lj {d:Nat} {ℓ':Nat→Nat} (hℓ:∀ t,t≠d→ℓ' t=ℓ t) {cs:List CV} {as_:List AV} (hf:CVs.free d cs=true) (h:Cs ℓ ρ cs as_):Cs ℓ' ρ cs as_ :=
 ⟨h.1,fun j x a hj ha=>AEp hℓ (CVs.free_mem hf x (List.mem_of_getElem? hj)) (h.2 j x a hj ha)⟩
theorem Wf {d:Nat} {ℓ':Nat→Nat} (hℓ:∀ t,t≠d→ℓ' t=ℓ t) {v:LV} {a:AV} (hf:v.free d=true) (h:BK P fr ℓ ρ v a):BK P fr ℓ' ρ v a:=by
 cases v with
 | lref t off=>simp only[LV.free,bne_iff_ne,ne_eq] at hf;simp only[BK] at h ⊢;rw[hℓ t hf];exact h
 | mref t=>simp only[LV.free,bne_iff_ne,ne_eq] at hf;simp only[BK] at h ⊢;rw[hℓ t hf];exact h
 | fn f first cap =>
  simp only[LV.free,Bool.and_eq_true] at hf
  simp only[BK] at h ⊢
  rw[LAs.free_av hℓ hf.1,LAs.free_av hℓ hf.2];exact h
 | ag cs=>obtain⟨as_,h1,h2⟩:=h;exact⟨as_,h1,Lj hℓ hf h2⟩
 | _=>exact h
theorem Qu {d:Nat}:∀ {S:List (Nat × LV)},VC d S=true→∀ t v,AI S t=some v→v.free d=true:=by
 intro S
 induction S with
 | nil=>intro _ t v h;cases h
 | cons x S ih =>
  obtain⟨t0,v0⟩:=x
  intro h t v hv
  simp only[VC,Bool.and_eq_true] at h
  simp only[AI] at hv
  split at hv
  ·injection hv with hv;subst hv;exact h.1
  ·exact ih h.2 t v hv
theorem LB {d:Nat}:∀ {N:List (Nat × List CV)},Tz d N=true→∀ t cs,AI N t=some cs→t≠d∧CVs.free d cs=true:=by
 intro N
 induction N with
 | nil=>intro _ t v h;cases h
 | cons x N ih =>
  obtain⟨t0,v0⟩:=x
  intro h t cs hv
  simp only[Tz,Bool.and_eq_true,bne_iff_ne,ne_eq] at h
  simp only[AI] at hv
  split at hv
  ·rename_i e;subst e;injection hv with hv;subst hv;exact⟨h.1,h.2.1⟩
  ·exact ih h.2.2 t cs hv
theorem BP.boxLt (h:BP P fr ℓ ρ c L env m) {t:Nat} {cs:List CV} (ht:AI L.N t=some cs):ℓ t<m.boxes.length:=by
 obtain⟨as_,h1,_⟩:=h.locs t _ ht
 exact(List.getElem?_eq_some_iff.1 h1).1
theorem Gq {t:Nat} {cs:List CV} (hvis:∀ i s es,CV.own i s es∈cs→Vis L i s es) {i s:Nat} {es:List AV} (h:Vis (Dq L t cs) i s es):Vis L i s es:=by
 rcases h with h | ⟨t',ds,h1,h2⟩
 ·exact .inl h
 ·simp only[Dq,AI] at h1
  split at h1
  ·injection h1 with h1;subst h1;exact hvis _ _ _ h2
  ·exact .inr ⟨t',ds,h1,h2⟩
theorem BP.alloc (h:BP P fr ℓ ρ c L env m) {d:Nat} {cs:List CV} {bx:Ck} (hok:FO d L=true) (hro:d<DQ) (hcr:FH ℓ ρ cs bx) (hf:CVs.free d cs=true) (hvis:∀ i s es,CV.own i s es∈cs→Vis L i s es) :
  BP P fr (fun x=>if x=d then m.boxes.length else ℓ x) ρ c (Dq L d cs) env (m.push bx):=by
 simp only[FO,Bool.and_eq_true] at hok
 have hS:=Qu hok.1
 have hN:=LB hok.2
 have hℓ:∀ t,t≠d→(fun x=>if x=d then m.boxes.length else ℓ x) t=ℓ t:=fun t ht=>if_neg ht
 have old:∀ {l:Nat} {b:Ck},m.boxes[l]?=some b→(m.push bx).boxes[l]?=some b:=by
  intro l b hb
  simp only[Mem.push];rw[List.getElem?_append_left (List.getElem?_eq_some_iff.1 hb).1];exact hb
 have key:∀ {t:Nat} {k:List CV},AI (Dq L d cs).N t=some k→(t=d∧k=cs)∨(t≠d∧AI L.N t=some k):=by
  intro t k h1
  simp only[Dq,AI] at h1
  split at h1
  ·rename_i e;injection h1 with h1;exact .inl ⟨e.symm,h1.symm⟩
  ·rename_i e;exact .inr ⟨fun e'=>e e'.symm,h1⟩
 refine⟨h.mode,fun t u h1 h2=>?_,fun t k h1=>?_,fun i s es hh=>h.tok i s es (Gq hvis hh),fun i s es j s' es' h1 h2=>h.apart i s es j s' es' (Gq hvis h1) (Gq hvis h2),fun t t' k k' h1 h2 h3=>?_,fun p hp=>?_,fun t k h1=>?_,fun i s es hh=>h.rlow i s es (Gq hvis hh),⟨Nat.le_trans h.len.1 (by simp[Mem.push]),h.len.2⟩,fun l b h1 h2=>old (h.frame l b h1 h2),h.rframe,fun q hq=>old (h.froz.1 q hq),fun q hq t k h1=>?_⟩
 ·obtain⟨a,h3,h4⟩:=h.slot t u h1 h2
  exact⟨a,h3,Wf hℓ (hS t u h1) h4⟩
 ·rcases key h1 with⟨rfl,rfl⟩|⟨h2,h3⟩
  ·exact⟨bx,by simp[Mem.push],hcr.imp (fun as_ hc=>Lj hℓ hf hc) (fun _ e=>e)⟩
  ·obtain⟨b',h4,h5⟩:=h.locs t k h3
   simp only[if_neg h2]
   exact⟨b',old h4,h5.imp (fun as_ hc=>Lj hℓ (hN t k h3).2 hc) (fun _ e=>e)⟩
 ·rcases key h1 with⟨rfl,rfl⟩|⟨h4,h5⟩
  ·rcases key h2 with⟨rfl,rfl⟩|⟨h6,h7⟩
   ·rfl
   ·have:=h.boxLt h7
    simp only[if_true,if_neg h6] at h3
    omega
  ·rcases key h2 with⟨rfl,rfl⟩|⟨h6,h7⟩
   ·have:=h.boxLt h5
    simp only[if_true,if_neg h4] at h3
    omega
   ·simp only[if_neg h4,if_neg h6] at h3
    exact h.inj t t' k k' h5 h7 h3
 ·obtain⟨⟨k,h1⟩,h2⟩:=h.bor p hp
  have hne:=(hN _ k h1).1
  refine⟨⟨k,?_⟩,by simp only[if_neg hne];exact h2⟩
  simp only[Dq,AI];rw[if_neg (fun e=>hne e.symm)];exact h1
 ·rcases key h1 with⟨rfl,rfl⟩|⟨h2,h3⟩
  ·left;simp only[if_true];exact h.len.1
  ·simp only[if_neg h2];exact h.low t k h3
 ·rcases key h1 with⟨rfl,rfl⟩|⟨h2,h3⟩
  ·have:=(List.getElem?_eq_some_iff.1 (h.froz.1 q hq)).1
   simp only[if_true];omega
  ·simp only[if_neg h2];exact h.froz.2 q hq t k h3
theorem Cu.alloc (h:BP P fr ℓ ρ c L env m) {op:Op} {dst:Option Tmp} {pos:Fu} {v:LV} {L1:AM} {pd:List Nat} {x:Option (List CV)} (hx:TG dst L x=some (v,L1,pd)) (ho:∀ cs,x=some cs→∃ as_,aop P op env m=some (.ptr m.boxes.length 0,m.push (.cells as_))∧Cs ℓ ρ cs as_∧(∀ d,FO d L=true→CVs.free d cs=true)∧∀ i s es,CV.own i s es∈cs→Vis L i s es) (hnl:∀ t y,op≠.load t y) (hd:Hj env dst):Cu P ℓ c L env m op dst pos v L1 pd:=by
 cases dst with
 | none=>cases hx
 | some d =>
  simp only[TG] at hx
  split at hx
  ·rename_i hok
   simp only[Bool.and_eq_true,decide_eq_true_eq] at hok
   cases hx':x with
   | none=>rw[hx'] at hx;cases hx
   | some cs =>
    rw[hx'] at hx
    simp only[Option.map_some] at hx
    injection hx with hx;injection hx with h1 h2;injection h2 with h2 h3;subst h1 h2 h3
    obtain⟨as_,hop,hcr,hf,hvis⟩:=ho cs hx'
    have hr:=h.alloc (bx:=.cells as_) hok.2 hok.1 hcr (hf d hok.2) hvis
    refine⟨_,_,fr,_,ρ,hop,hr.put (v:=.lref d 0) (by simp[BK]) (fun i s es hh=>hh.elim) hd,fun _=>Ext.push _ _,fun t ht ⟨k,hk⟩=>⟨?_,?_,?_⟩,fun t y e=>absurd e (hnl t y)⟩
    ·have hN:=hok.2
     simp only[FO,Bool.and_eq_true] at hN
     exact if_neg (LB hN.2 t k hk).1
    ·have:=h.boxLt hk
     simp only[Mem.push];rw[List.getElem?_append_left this]
    ·simp only[Dq,AI]
     split
     ·exact⟨_,rfl⟩
     ·exact⟨k,hk⟩
  ·cases hx
theorem Qx {cs ys:List CV} {as_ bs':List AV} (h:Cs ℓ ρ cs as_) (k:Cs ℓ ρ ys bs') (off:Nat):Cs ℓ ρ (Jx cs off ys) (Ca as_ off bs'):=by
 obtain⟨h1,h2⟩:=h
 obtain⟨k1,k2⟩:=k
 unfold Jx Ca
 refine⟨by simp[h1,k1],fun j c a hj ha=>?_⟩
 have e1:(cs.take off++ys).length=(as_.take off++bs').length:=by simp[h1,k1]
 have e2:(cs.take off).length=(as_.take off).length:=by simp[h1]
 by_cases hlt:j<(cs.take off++ys).length
 ·rw[List.getElem?_append_left hlt] at hj
  rw[List.getElem?_append_left (by omega)] at ha
  by_cases hlt2:j<(cs.take off).length
  ·rw[List.getElem?_append_left hlt2] at hj
   rw[List.getElem?_append_left (by omega)] at ha
   rw[List.getElem?_take] at hj ha
   split at hj
   ·rw[if_pos (by assumption)] at ha;exact h2 j c a hj ha
   ·cases hj
  ·rw[List.getElem?_append_right (by omega)] at hj ha
   rw[← e2] at ha
   exact k2 _ c a hj ha
 ·rw[List.getElem?_append_right (by omega)] at hj ha
  rw[← e1] at ha
  rw[List.getElem?_drop] at hj ha
  rw[k1] at ha
  exact h2 _ c a hj ha
theorem Uf {cs ys:List CV} {off:Nat} {x:CV} (h:x∈Jx cs off ys):x∈cs∨x∈ys:=by
 unfold Jx at h
 rcases List.mem_append.1 h with h | h
 ·rcases List.mem_append.1 h with h | h
  ·exact .inl (List.mem_of_mem_take h)
  ·exact .inr h
 ·exact .inl (List.mem_of_mem_drop h)
theorem BP.setVar (h:BP P fr ℓ ρ c L env m) {t':Nat} {cs ds:List CV} {bx:Ck} (hl:AI L.N t'=some cs) (hro:t'<DQ) (hcr:FH ℓ ρ ds bx) (hvis:∀ i s es,CV.own i s es∈ds→Vis L i s es):BP P fr ℓ ρ c (Dq L t' ds) env (m.set (ℓ t') bx):=by
 have hlt:=h.boxLt hl
 have key:∀ {t:Nat} {k:List CV},AI (Dq L t' ds).N t=some k→(t=t'∧k=ds)∨(t≠t'∧AI L.N t=some k):=by
  intro t k h1
  simp only[Dq,AI] at h1
  split at h1
  ·rename_i e;injection h1 with h1;exact .inl ⟨e.symm,h1.symm⟩
  ·rename_i e;exact .inr ⟨fun e'=>e e'.symm,h1⟩
 have key2:∀ {t:Nat} {k:List CV},AI (Dq L t' ds).N t=some k→∃ k',AI L.N t=some k':=by
  intro t k h1
  rcases key h1 with⟨rfl,_⟩|⟨_,h2⟩
  ·exact⟨_,hl⟩
  ·exact⟨_,h2⟩
 have other:∀ {l:Nat} {b:Ck},m.boxes[l]?=some b→ℓ t'≠l→(m.set (ℓ t') bx).boxes[l]?=some b:=by
  intro l b hb hne
  simp only[Mem.set];rw[List.getElem?_set_ne hne];exact hb
 refine⟨h.mode,h.slot,fun t k h1=>?_,fun i s es g=>h.tok i s es (Gq hvis g),fun i s es j s' es' g1 g2=>h.apart i s es j s' es' (Gq hvis g1) (Gq hvis g2),fun t t1 k k1 h1 h2 h3=>?_,fun p hp=>?_,fun t k h1=>?_,fun i s es g=>h.rlow i s es (Gq hvis g),⟨by simp only[Mem.set,List.length_set];exact h.len.1,h.len.2⟩,fun l b h1 h2=>?_,h.rframe,fun q hq=>?_,fun q hq t k h1=>?_⟩
 ·rcases key h1 with⟨rfl,rfl⟩|⟨h2,h3⟩
  ·exact⟨bx,by simp only[Mem.set];rw[List.getElem?_set_self hlt],hcr⟩
  ·obtain⟨as',h4,h5⟩:=h.locs t k h3
   exact⟨as',other h4 (fun e=>h2 (h.inj t' t _ _ hl h3 e).symm),h5⟩
 ·obtain⟨k',g1⟩:=key2 h1
  obtain⟨k1',g2⟩:=key2 h2
  exact h.inj t t1 _ _ g1 g2 h3
 ·obtain⟨⟨k,h1⟩,h2⟩:=h.bor p hp
  refine⟨?_,h2⟩
  simp only[Dq,AI]
  split
  ·exact⟨_,rfl⟩
  ·exact⟨k,h1⟩
 ·obtain⟨k',g1⟩:=key2 h1
  exact h.low t k' g1
 ·refine other (h.frame l b h1 h2) (fun e=>?_)
  rcases h.low t' cs hl with h3 | ⟨p,hp,h3⟩ | h3
  ·have:=(List.getElem?_eq_some_iff.1 h1).1;omega
  ·obtain⟨⟨k,g1⟩,g2⟩:=h.bor p hp
   have:=h.inj p.1 t' k cs g1 hl (g2.trans h3)
   exact h2 p hp (by omega) (h3.trans e)
  ·omega
 ·exact other (h.froz.1 q hq) (h.froz.2 q hq t' cs hl)
 ·obtain⟨k',g1⟩:=key2 h1
  exact h.froz.2 q hq t k' g1
theorem Cu.store (h:BP P fr ℓ ρ c L env m) {t:TypeId} {x y:Operand} {dst:Option Tmp} {pos:Fu} {v p u:LV} {L1:AM} {pd:List Nat} (hx:levalA L x=some p) (hy:levalA L y=some u) (hs:Mb P t p u pos L=some (v,L1,pd)) (hd:Hj env dst):Cu P ℓ c L env m (.store t x y) dst pos v L1 pd:=by
 unfold Mb at hs
 split at hs
 ·rename_i t' off
  split at hs
  ·rename_i cs n hl hz
   obtain⟨ys,hys,hs⟩:=AE hs
   split at hs
   ·rename_i hc
    obtain⟨cm,c0,c1,c2,c3,c4⟩:=hc
    injection hs with hs;injection hs with h1 h2;injection h2 with h2 h3;subst h1 h2 h3
    obtain⟨_,⟨a,ha,har⟩,_⟩:=h.levalA hx
    obtain⟨_,⟨b,hb,hbr⟩,hvis⟩:=h.levalA hy
    have hpt:a=.ptr (ℓ t') off:=har
    subst hpt
    obtain⟨bx,hbox,hbr0⟩:=h.locs t' _ hl
    obtain⟨as_,rfl,hcr⟩:=hbr0.nomp cm
    obtain⟨hycr,hnt,hyown⟩:=Qt hys hbr
    have hcond:b.cells.length=n∧off+n≤as_.length∧Bj b=true:=⟨by rw[hycr.1];exact c3,by rw[hcr.1];exact c4,hnt⟩
    have hop:aop P (.store t x y) env m=some (.undef,m.set (ℓ t') (.cells (Ca as_ off b.cells))):=by
     simp only[aop,ha,hb,Option.bind_some,FL,hbox,hz]
     rw[if_pos hcond];rfl
    have hrel:=h.setVar (bx:=.cells (Ca as_ off b.cells)) hl (of_decide_eq_true c0) (Qx hcr hycr off) (fun i s es g2=>by
     rcases Uf g2 with g2 | g2
     ·exact .inr ⟨t',_,hl,g2⟩
     ·exact hvis i s es (hyown i s es g2))
    refine⟨.undef,_,fr,ℓ,ρ,hop,hrel.put (v:=.v .undef) rfl (fun i s es hh=>hh.elim) hd,fun he=>(by rw[c1] at he;cases he),fun t0 ht0 ⟨k,hk⟩=>⟨rfl,?_,?_⟩,fun t a e=>by cases e⟩
    ·have hne':t'≠t0:=by
      rintro rfl
      rw[List.contains_iff_mem.2 ht0] at c2;cases c2
     simp only[Mem.set]
     rw[List.getElem?_set_ne (fun he=>hne' (h.inj t' t0 _ _ hl hk he))]
    ·simp only[Dq,AI]
     split
     ·exact⟨_,rfl⟩
     ·exact⟨k,hk⟩
   ·cases hs
  ·cases hs
 ·rename_i i s k off
  split at hs
  ·rename_i s' es n a hf hz
   split at hs
   ·rename_i hc
    obtain⟨c0,rfl,c1,c2,c3⟩:=hc
    obtain⟨e,he,hs⟩:=AE hs
    cases ht:OR e off a.cells with
    | none=>rw[ht] at hs;cases hs
    | some e' =>
     rw[ht] at hs
     simp only[Option.map_some] at hs
     injection hs with hs;injection hs with h1 h2;injection h2 with h2 h3;subst h1 h2 h3
     obtain⟨_,⟨ap,ha,id,hid,rfl⟩,_⟩:=h.levalA hx
     obtain⟨_,⟨b,hb,hbr⟩,_⟩:=h.levalA hy
     have hb2:b=a:=hbr
     subst hb2
     have hv:Vis L i s' es:=QB hf
     have hrow:=Bt.vrow (by have:=h.tok i s' es hv;rw[hid] at this;exact this) c0
     have hone:=(hrow.2.1 e (List.mem_of_getElem? he))
     obtain⟨t1,t2⟩:=ABX ht
     obtain⟨f1,f2⟩:=AEH hrow.2.1 he t1 t2
     have hop:aop P (.store t x y) env m=some (.undef,m.setRow id 0 (flatC (es.set k e'))):=by
      simp only[aop,ha,hb,Option.bind_some,FL,hrow.1,hz]
      rw[if_pos ⟨c2,by rw[← c2];exact f2,c3⟩,f1];rfl
     have he1:∀ z∈es.set k e',z.cells.length=s':=by
      intro z hz'
      rcases List.mem_or_eq_of_mem_set hz' with h5 | rfl
      ·exact hrow.2.1 z h5
      ·rw[t2,Hm t1];exact hone
     have hrel:=h.turn hv c0 hid (by simp) he1
     refine⟨.undef,_,fr,ℓ,ρ,hop,hrel.put (v:=.v .undef) rfl (fun i s es hh=>hh.elim) hd,fun he=>(by rw[c1] at he;cases he),fun t0 ht0 ⟨k',hk'⟩=>⟨rfl,rfl,?_⟩,fun t a e=>by cases e⟩
     simp only[KM,NC,hk',Option.map_some]
     exact⟨_,rfl⟩
   ·cases hs
  ·cases hs
 ·cases hs
end
end
section
variable [Mu]
section
variable {P:Program} {fr:Fro} {ℓ:Nat→Nat} {ρ:Nat→Own} {c:FM} {L:AM} {env:List AV} {m:Mem}
theorem Pu {i d t:Nat}:∀ {S:List (Nat × LV)},AI (RC i d S) t=(AI S t).map (LV.kill i d):=by
 intro S
 induction S with
 | nil=>rfl
 | cons x S ih =>
  obtain⟨t0,v0⟩:=x
  simp only[RC,AI]
  split
  ·rfl
  ·exact ih
theorem HU {i d t:Nat}:∀ {N:List (Nat × List CV)},AI (RQ i d N) t=(AI N t).map (·.map (CV.kill i d)):=by
 intro N
 induction N with
 | nil=>rfl
 | cons x N ih =>
  obtain⟨t0,v0⟩:=x
  simp only[RQ,AI]
  split
  ·rfl
  ·exact ih
theorem XE {i d j s:Nat} {es:List AV} {cs:List CV} (h:CV.own j s es∈cs.map (CV.kill i d)):CV.own j s es∈cs∧j≠i∧j≠d:=by
 obtain⟨x,hc,he⟩:=List.mem_map.1 h
 cases x <;> simp only[CV.kill] at he
 ·cases he
 ·split at he
  ·cases he
  ·split at he
   ·cases he
   ·injection he with e1 e2 e3;subst e1 e2 e3
    exact⟨hc,by assumption,by assumption⟩
 all_goals cases he
theorem AFx {i d j s:Nat} {es:List AV} {u:LV} (h:(u.kill i d).has j s es):u.has j s es∧j≠i∧j≠d:=by
 cases u <;> simp only[LV.kill] at h
 ·exact h.elim
 ·split at h
  ·exact h.elim
  ·split at h
   ·exact h.elim
   ·obtain⟨rfl,rfl,rfl⟩:=h;exact⟨⟨rfl,rfl,rfl⟩,by assumption,by assumption⟩
 ·exact XE h
 ·exact h.elim
 ·exact h.elim
 ·exact h.elim
 ·split at h
  ·exact h.elim
  ·split at h
   ·exact h.elim
   ·exact h.elim
 ·split at h
  ·exact h.elim
  ·split at h
   ·exact h.elim
   ·exact h.elim
 all_goals exact h.elim
theorem Te {i d j s:Nat} {es:List AV} (h:Vis (EZ i d L) j s es):Vis L j s es∧j≠i∧j≠d:=by
 rcases h with⟨t,u,h1,h2⟩|⟨t,cs,h1,h2⟩
 ·simp only[EZ,Pu] at h1
  cases hu:AI L.S t with
  | none=>rw[hu] at h1;cases h1
  | some u0 =>
   rw[hu] at h1;injection h1 with h1;subst h1
   obtain⟨h3,h4⟩:=AFx h2
   exact⟨.inl ⟨t,u0,hu,h3⟩,h4⟩
 ·simp only[EZ,HU] at h1
  cases hu:AI L.N t with
  | none=>rw[hu] at h1;cases h1
  | some u0 =>
   rw[hu] at h1;injection h1 with h1;subst h1
   obtain⟨h3,h4⟩:=XE h2
   exact⟨.inr ⟨t,u0,hu,h3⟩,h4⟩
theorem OZ {ρ':Nat→Own} {i d:Nat} (hρ:∀ j,j≠i→j≠d→ρ' j=ρ j) {cs:List CV} {as_:List AV} (h:Cs ℓ ρ cs as_):Cs ℓ ρ' (cs.map (CV.kill i d)) as_:=by
 refine⟨by simp[h.1],fun j x a hj ha=>?_⟩
 rw[List.getElem?_map] at hj
 cases hc:cs[j]? with
 | none=>rw[hc] at hj;cases hj
 | some c0 =>
  rw[hc] at hj;injection hj with hj;subst hj
  have:=h.2 j c0 a hc ha
  cases c0 with
  | v x=>exact this
  | own k s es =>
   simp only[CV.kill]
   split
   ·trivial
   ·split
    ·trivial
    ·simp only[EF] at this ⊢;rw[hρ k (by assumption) (by assumption)];exact this
  | dead=>trivial
  | _=>exact this
theorem WY {ρ':Nat→Own} {i d:Nat} (hρ:∀ j,j≠i→j≠d→ρ' j=ρ j) {u:LV} {a:AV} (h:BK P fr ℓ ρ u a):BK P fr ℓ ρ' (u.kill i d) a:=by
 cases u with
 | own k s es =>
  simp only[LV.kill]
  split
  ·trivial
  ·split
   ·trivial
   ·simp only[BK] at h ⊢;rw[hρ k (by assumption) (by assumption)];exact h
 | ag cs=>obtain⟨as_,h1,h2⟩:=h;exact⟨as_,h1,OZ hρ h2⟩
 | vref k s k0 off =>
  simp only[LV.kill]
  split
  ·trivial
  ·split
   ·trivial
   ·simp only[BK] at h ⊢;rw[hρ k (by assumption) (by assumption)];exact h
 | vsub k s k0 n =>
  simp only[LV.kill]
  split
  ·trivial
  ·split
   ·trivial
   ·simp only[BK] at h ⊢;rw[hρ k (by assumption) (by assumption)];exact h
 | _=>exact h
theorem Bt.else {R R':List (Option (Nat × List AV))} {i s:Nat} {own own':Own} {es:List AV} (h:Bt R i own s es) (e:ABZ own' R R') (hne:own=.full∨own'≠own):Bt R' i own s es:=by
 refine h.mono (fun id hid x hx=>?_)
 rcases hne with hne | hne
 ·rw[hid] at hne;cases hne
 ·exact e id (by rw[← hid];exact hne) x hx
theorem Bt.of {R:List (Option (Nat × List AV))} {i s:Nat} {own:Own} {es:List AV} (hi:isV i=false) (h:ZW R own es.length s):Bt R i own s es:=by
 unfold Bt
 rw[if_neg (by rw[hi];simp)];exact h
theorem AGp {t:TypeId} {es:List AV} {e u:AV} {s k off:Nat} (hs:∀ e∈es,e.cells.length=s) (he:es[k]?=some e) (hu:Fa P t e.cells off=some u):Fa P t (flatC es) (k * s+off)=some u:=by
 obtain⟨hkl,hke⟩:=List.getElem?_eq_some_iff.1 he
 have hes:e.cells.length=s:=hs e (List.mem_of_getElem? he)
 have e1:es=es.take k++e :: es.drop (k+1):=by
  conv=>lhs;rw[← List.take_append_drop k es,List.drop_eq_getElem_cons hkl,hke]
 have hlen:(flatC (es.take k)).length=k * s:=by
  rw[Bz (fun e h=>hs e (List.mem_of_mem_take h)),List.length_take,Nat.min_eq_left (by omega)]
 have f1:flatC es=flatC (es.take k)++(e.cells++flatC (es.drop (k+1))):=by
  conv=>lhs;rw[e1]
  simp[flatC]
 unfold Fa at hu ⊢
 split at hu
 ·rename_i n h1 h2
  split at hu
  ·rename_i hle
   injection hu with hu;subst hu
   rw[if_pos (by rw[f1,List.length_append,List.length_append,hlen];omega),f1]
   congr 2
   rw[List.drop_append,hlen,List.drop_of_length_le (by omega),List.nil_append,show k * s+off - k * s=off by omega,List.drop_append,List.take_append,List.length_drop,show n - (e.cells.length - off)=0 by omega,List.take_zero,List.append_nil]
  ·cases hu
 ·rename_i h1 h2
  have hle:=(List.getElem?_eq_some_iff.1 hu).1
  rw[f1,List.getElem?_append_right (by omega),hlen,show k * s+off - k * s=off by omega,List.getElem?_append_left hle]
  exact hu
 ·cases hu
theorem SU {P:Program} {B:List Ck} {R:List (Option (Nat × List AV))} {μ:TypeId→Bool} {t xt el el' s b i d:Nat} {own o:Own} {es ys:List AV} (h1:Bn P t=some el) (h2:Bn P xt=some el') (h3:Av P el=some s) (h4:ER P el=some b) (h5:Dh P el=some s) (hμ:μ el=true)
  (hc:(decide (0<s)&&decide (0<b))=true) (hd:isV d=true) (hb:isB d=false) (hown:(own=.full∧(ys=[]→es=[]))∨(isV i=true∧Bt R i own s es)) (hlen:(es.length+ys.length) * b≤140737488355328) (h6:∀ e∈es,e.cells.length=s) (h7:∀ e∈ys,e.cells.length=s) :
  ∃ own' R',EK P ⟨B,R,μ⟩ t xt (if own=.full then .slice .full es else BZ i s own es) (.slice o ys)=some (BZ d s own' (es++ys),⟨B,R',μ⟩)∧Bt R' d own' s (es++ys)∧ABZ own R R'∧(own'=own∨own'=.row R.length)∧R.length≤R'.length:=by
 simp only[Bool.and_eq_true,decide_eq_true_eq] at hc
 have hcond:0<s∧0<b∧Dh P el=some s∧(es.length+ys.length) * b≤Fd:=⟨hc.1,hc.2,h5,hlen⟩
 have h7':∀ e∈es++ys,e.cells.length=s:=fun e he=>(List.mem_append.1 he).elim (h6 e) (h7 e)
 have hmine:∀ R' id,R'[id]?=some (some (0,flatC es++flatC ys))→Bt R' d (.row id) s (es++ys):=by
  intro R' id h
  unfold Bt
  rw[if_pos hd]
  exact .inr ⟨id,rfl,by rw[h,HS],h7',hc.1⟩
 have hres:∀ id,BZ d s (.row id) (es++ys)=.vec id 0 (es.length+ys.length) s .opn:=by
  intro id
  simp only[BZ,if_pos hd,List.length_append]
 by_cases hf:own=.full
 ·subst hf
  rw[if_pos rfl]
  by_cases hy:ys=[]
  ·subst hy
   have he:es=[]:=by
    rcases hown with⟨_,h⟩|⟨hi,h⟩
    ·exact h rfl
    ·unfold Bt at h
     rw[if_pos hi] at h
     rcases h with h | ⟨id,h,_⟩
     ·exact h.2
     ·cases h
   subst he
   refine⟨.full,R,?_,?_,fun _ _ x hx=>hx,.inl rfl,Nat.le_refl _⟩
   ·simp only[EK,h1,hμ,if_true,GX,h2,h3,h4,FU]
    simp only[BZ,if_pos hd,hb,Bool.false_eq_true,if_false,List.append_nil,List.not_mem_nil,false_implies,implies_true,if_true,flatC,List.flatMap_nil,List.length_nil]
    rw[if_pos ⟨hc.1,hc.2,h5,by simp[Fd]⟩]
    rfl
   ·unfold Bt
    rw[if_pos hd]
    exact .inl ⟨rfl,rfl⟩
  ·have hyl:ys.length≠0:=by simpa using hy
   refine⟨.row R.length,R++[some (0,flatC es++flatC ys)],?_,hmine _ _ (by simp),fun id _ x hx=>?_,.inr rfl,by simp⟩
   ·simp only[EK,h1,hμ,if_true,GX,h2,h3,h4,FU]
    rw[if_pos h6,if_pos h7]
    dsimp only
    rw[if_pos hcond,if_neg hyl,hres]
    rfl
   ·rw[List.getElem?_append_left (List.getElem?_eq_some_iff.1 hx).1];exact hx
 ·rw[if_neg hf]
  rcases hown with⟨h,_⟩|⟨hi,hm⟩
  ·exact absurd h hf
  ·cases own with
   | full=>exact absurd rfl hf
   | foreign=>rcases hm.row with h | ⟨_,h,_⟩ <;> cases h
   | row id =>
    obtain⟨g1,g2,g3⟩:=Bt.vrow hm hi
    have hx:BZ i s (.row id) es=.vec id 0 es.length s .opn:=by simp only[BZ,if_pos hi]
    have hlf:(flatC es).length=es.length * s:=Bz g2
    by_cases hy:ys=[]
    ·subst hy
     refine⟨.row id,R,?_,by rw[List.append_nil];unfold Bt;rw[if_pos hd];exact .inr ⟨id,rfl,g1,g2,g3⟩,fun _ _ x hx=>hx,.inl rfl,Nat.le_refl _⟩
     rw[hx]
     simp only[EK,GX,h1,h2,h3,h4,FU,g1]
     rw[if_pos ⟨trivial,by rw[hlf];omega⟩]
     simp only[List.not_mem_nil,false_implies,implies_true,if_true,List.length_nil]
     rw[if_pos (by simpa using hcond),List.append_nil]
     simp only[BZ,if_pos hd,Kv,g1]
     rw[Nat.zero_add,List.take_of_length_le (by rw[hlf];exact Nat.le_refl _)]
     simp only[Mem.setRow]
     rw[show R.set id (some (0,flatC es))=R from by
      apply List.ext_getElem?
      intro j
      rw[List.getElem?_set]
      split
      ·rename_i e;subst e;rw[g1];simp[(List.getElem?_eq_some_iff.1 g1).1]
      ·rfl]
    ·have hyl:ys.length≠0:=by simpa using hy
     have hidl:id<R.length:=(List.getElem?_eq_some_iff.1 g1).1
     refine⟨.row R.length,R.set id none++[some (0,flatC es++flatC ys)],?_,hmine _ _ (by simp),fun id' hne x hx=>?_,.inr rfl,by simp⟩
     ·rw[hx]
      simp only[EK,GX,h1,h2,h3,h4,FU,g1]
      rw[if_pos ⟨trivial,by rw[hlf];omega⟩,if_pos h7]
      dsimp only
      rw[if_pos hcond,if_neg hyl]
      simp only[Yp,g1]
      have hno:¬ 0+(es.length+ys.length) * s≤(flatC es).length:=by
       rw[hlf,Nat.add_mul]
       have:0<ys.length * s:=Nat.mul_pos (by omega) g3
       omega
      rw[if_neg hno,if_true,hres]
      rw[List.drop_zero,List.take_of_length_le (by rw[hlf];exact Nat.le_refl _)]
      simp only[Mem.pushRow,Mem.retire]
     ·rw[List.getElem?_append_left (by simp;exact(List.getElem?_eq_some_iff.1 hx).1),List.getElem?_set_ne (fun e=>hne (by rw[e]))];exact hx
theorem Cr {α β:Type} {o:Option α} {f:α→β} {b:β} (h:o.map f=some b):∃ a,o=some a∧f a=b:=by
 cases o with
 | none=>cases h
 | some a=>injection h with h;exact⟨a,rfl,h⟩
theorem Cu.append (h:BP P fr ℓ ρ c L env m) {op:Op} {dst:Option Tmp} {pos:Fu} {d i s:Nat} {own:Own} {es ys:List AV} {R':List (Option (Nat × List AV))} {own':Own}
  (hdst:∃ d0,dst=some d0) (hop:aop P op env m=some (BZ d s own' (es++ys),{ m with rows:=R' })) (hm:Bt R' d own' s (es++ys)) (hel:ABZ own m.rows R') (hown:own'=own∨own'=.row m.rows.length) (hlen:m.rows.length≤R'.length)
  (hsrc:own=.full∨(own=ρ i∧∃ s0 es0,Vis L i s0 es0)) (hearly:pos.early=true→own=.full) (hnl:∀ t y,op≠.load t y) (hd:Hj env dst):Cu P ℓ c L env m op dst pos (.own d s (es++ys)) (EZ i d L) []:=by
 obtain⟨d0,hdst⟩:=hdst
 subst hdst
 have hρ:∀ j,j≠i→j≠d→(fun k=>if k=d then own' else ρ k) j=ρ j:=fun j _ h2=>if_neg h2
 have hvis:∀ j s0 es0,Vis (FR (EZ i d L) (some d0) (.own d s (es++ys))) j s0 es0→(j=d∧s0=s∧es0=es++ys)∨(Vis L j s0 es0∧j≠i∧j≠d):=by
  rintro j s0 es0 (⟨t,u,h1,h2⟩|⟨t,cs,h1,h2⟩)
  ·by_cases e:d0=t
   ·subst e
    rw[Gm] at h1
    injection h1 with h1;subst h1
    obtain⟨rfl,rfl,rfl⟩:=h2;exact .inl ⟨rfl,rfl,rfl⟩
   ·rw[Hv (by rintro⟨⟩;exact e rfl)] at h1
    exact .inr (Te (.inl ⟨t,u,h1,h2⟩))
  ·exact .inr (Te (.inr ⟨t,cs,h1,h2⟩))
 have hrow:∀ j s0 es0,Vis L j s0 es0→j≠i→own'=.full∨own'≠ρ j:=by
  intro j s0 es0 h1 h2
  rcases hown with rfl | rfl
  ·rcases hsrc with h3 | ⟨h3,s1,es1,h4⟩
   ·exact .inl h3
   ·rw[h3];exact h.apart i s1 es1 j s0 es0 h4 h1 (fun e=>h2 e.symm)
  ·right
   intro e
   rcases (h.tok j s0 es0 h1).row with h3 | ⟨id,h3,h4⟩
   ·rw[h3] at e;cases e
   ·rw[h3] at e;injection e with e;omega
 refine⟨_,_,fr,ℓ,fun k=>if k=d then own' else ρ k,hop,⟨h.mode,fun t u h1 h2=>?_,fun t cs h1=>?_,fun j s0 es0 hh=>?_,fun j s0 es0 k s1 es1 h1 h2 hne=>?_,fun t t' k k' h1 h2 h3=>?_,fun p hp=>?_,fun t k h1=>?_,fun j s0 es0 hh id hid=>?_,⟨h.len.1,Nat.le_trans h.len.2 hlen⟩,h.frame,fun id x h1 h2=>?_,h.froz.1,fun q hq t k h1=>?_⟩,fun he=>?_,fun t ht ⟨k,hk⟩=>⟨rfl,rfl,?_⟩,fun t y e=>absurd e (hnl t y)⟩
 ·by_cases e:t=d0
  ·subst e
   rw[Gm] at h1
   injection h1 with h1;subst h1
   exact⟨_,by simp only[DS];rw[List.getElem?_set_self (hd t rfl)],by simp[BK]⟩
  ·have hne:(some d0:Option Tmp)≠some t:=by rintro⟨⟩;exact e rfl
   rw[Hv hne] at h1
   simp only[EZ,Pu] at h1
   cases hu:AI L.S t with
   | none=>rw[hu] at h1;cases h1
   | some u0 =>
    rw[hu] at h1;injection h1 with h1;subst h1
    obtain⟨a,h3,h4⟩:=h.slot t u0 hu (by rintro rfl;exact h2 rfl)
    exact⟨a,TJ hne h3,WY hρ h4⟩
 ·rw[Eu] at h1
  simp only[EZ,HU] at h1
  obtain⟨k,hk,rfl⟩:=Cr h1
  obtain⟨b,h3,h4⟩:=h.locs t k hk
  exact⟨b,h3,h4.imp (fun as_ hc=>OZ hρ hc) (fun es e=>by rw[e];rfl)⟩
 ·rcases hvis j s0 es0 hh with⟨rfl,rfl,rfl⟩|⟨h1,h2,h3⟩
  ·simp only[if_true];exact hm
  ·simp only[if_neg h3]
   refine(h.tok j s0 es0 h1).else hel ?_
   rcases hsrc with h4 | ⟨h4,s1,es1,h5⟩
   ·subst h4
    cases hj:ρ j with
    | full=>exact .inl rfl
    | _=>exact .inr (by simp)
   ·rcases h.apart j s0 es0 i s1 es1 h1 h5 h2 with h6 | h6
    ·exact .inl h6
    ·exact .inr (by rw[h4];exact fun e=>h6 e.symm)
 ·rcases hvis j s0 es0 h1 with⟨rfl,rfl,rfl⟩|⟨g1,g2,g3⟩
  ·rcases hvis k s1 es1 h2 with⟨rfl,rfl,rfl⟩|⟨k1,k2,k3⟩
   ·exact absurd rfl hne
   ·simp only[if_true,if_neg k3]
    exact hrow k s1 es1 k1 k2
  ·rcases hvis k s1 es1 h2 with⟨rfl,rfl,rfl⟩|⟨k1,k2,k3⟩
   ·simp only[if_true,if_neg g3]
    rcases hrow j s0 es0 g1 g2 with h5 | h5
    ·rw[h5]
     cases hj:ρ j with
     | full=>exact .inl rfl
     | _=>exact .inr (by simp)
    ·exact .inr fun e=>h5 e.symm
   ·simp only[if_neg g3,if_neg k3]
    exact h.apart j s0 es0 k s1 es1 g1 k1 hne
 ·rw[Eu] at h1 h2
  simp only[EZ,HU] at h1 h2
  obtain⟨k1,g1,_⟩:=Cr h1
  obtain⟨k2,g2,_⟩:=Cr h2
  exact h.inj t t' _ _ g1 g2 h3
 ·obtain⟨⟨k,h1⟩,h2⟩:=h.bor p hp
  exact⟨⟨_,by rw[Eu];simp only[EZ,HU,h1];rfl⟩,h2⟩
 ·rw[Eu] at h1
  simp only[EZ,HU] at h1
  obtain⟨k1,g1,_⟩:=Cr h1
  exact h.low t k1 g1
 ·rcases hvis j s0 es0 hh with⟨rfl,rfl,rfl⟩|⟨h1,h2,h3⟩
  ·simp only[if_true] at hid
   rcases hown with rfl | rfl
   ·rcases hsrc with h4 | ⟨h4,s1,es1,h5⟩
    ·rw[h4] at hid;cases hid
    ·exact h.rlow i s1 es1 h5 id (by rw[← h4];exact hid)
   ·injection hid with hid;left;rw[← hid];exact h.len.2
  ·simp only[if_neg h3] at hid
   exact h.rlow j s0 es0 h1 id hid
 ·refine hel id (fun e=>?_) x (h.rframe id x h1 h2)
  rcases hsrc with h4 | ⟨h4,s1,es1,h5⟩
  ·rw[h4] at e;cases e
  ·rcases h.rlow i s1 es1 h5 id (by rw[← h4];exact e) with h6 | h6
   ·have:=(List.getElem?_eq_some_iff.1 h1).1;omega
   ·exact h2 h6
 ·rw[Eu] at h1
  simp only[EZ,HU] at h1
  obtain⟨k1,g1,_⟩:=Cr h1
  exact h.froz.2 q hq t k1 g1
 ·have hf:=hearly he
  subst hf
  refine⟨⟨[],by simp⟩,⟨R'.drop m.rows.length,?_⟩,rfl⟩
  apply List.ext_getElem?
  intro k
  by_cases hk:k<m.rows.length
  ·rw[List.getElem?_append_left hk,List.getElem?_eq_getElem hk]
   exact hel k (by simp) _ (List.getElem?_eq_getElem hk)
  ·rw[List.getElem?_append_right (by omega),List.getElem?_drop];congr 1;omega
 ·exact⟨_,by simp only[EZ,HU,hk];rfl⟩
theorem TK {t xt:TypeId} {es ys:List AV} {s:Nat} (h:IB P t xt es ys=some s):∃ el el' b,Bn P t=some el∧Bn P xt=some el'∧Av P el=some s∧ER P el=some b∧Dh P el=some s∧(decide (0<s)&&decide (0<b))=true∧(es.length+ys.length) * b≤140737488355328∧(∀ e∈es,e.cells.length=s)∧∀ e∈ys,e.cells.length=s:=by
 unfold IB at h
 split at h
 ·rename_i e e' h1 h2
  split at h
  ·rename_i s' b h3 h4
   split at h
   ·rename_i hc
    injection h with h;subst h
    obtain⟨c1,c2,c3,c4,c5,c6⟩:=hc
    exact⟨_,_,_,h1,h2,h3,h4,c3,by simp[c1,c2],c4,c5,c6⟩
   ·cases h
  ·cases h
 ·cases h
theorem Cu.appendOp (h:BP P fr ℓ ρ c L env m) {x y:Operand} {t xt:TypeId} {dst:Option Tmp} {pos:Fu} {v vx:LV} {vy:AV} {L1:AM} {pd:List Nat} {as_:Array Operand} {ts:Array TypeId} (has:as_.toList=[x,y]) (hts:ts.toList=[t,xt])
  (hx:levalA L x=some vx) (hy:levalR L y=some vy) (hl:Hr P t xt vx vy dst pos.early L=some (v,L1,pd)) (hd:Hj env dst):Cu P ℓ c L env m (.call { callee:=.builtin .append,args:=as_,argTypes:=ts }) dst pos v L1 pd:=by
 obtain⟨hpl,⟨ax,hax,hrx⟩,hvx⟩:=h.levalA hx
 obtain⟨ay,hay,hey⟩:=h.levalR hy
 obtain⟨B,R,μ⟩:=m
 have hμ:μ=Bk:=h.mode
 subst hμ
 have hrun:∀ r,EK P ⟨B,R,Bk⟩ t xt ax ay=some r→aop P (.call { callee:=.builtin .append,args:=as_,argTypes:=ts }) env ⟨B,R,Bk⟩=some r:=by
  intro r hr
  simp only[aop,has,hts,EQ,List.mapM_cons,List.mapM_nil,Option.pure_def,Option.bind_eq_bind,hax,hay,Option.bind_some,FT]
  exact hr
 unfold Hr at hl
 split at hl
 ·rename_i d o ys
  have hay':∃ o',ay=.slice o' ys:=by cases hey <;> exact⟨_,rfl⟩
  obtain⟨o',rfl⟩:=hay'
  split at hl
  ·rename_i es
   split at hl
   ·cases hl
   ·rename_i hno
    cases hs:IB P t xt es ys with
    | none=>rw[hs] at hl;cases hl
    | some s =>
     rw[hs] at hl
     simp only[Option.map_some] at hl
     injection hl with hl;injection hl with h1 h2;injection h2 with h2 h3;subst h1 h2 h3
     obtain⟨el2,el',b,g1,g2,g3,g4,g5,g6,g7,g8,g9⟩:=TK hs
     have hmt:muT P t=Bk el2:=by unfold muT;rw[g1]
     rw[hmt] at hno ⊢
     have:ax=.slice .full es:=hrx
     subst this
     cases hmu:Bk el2 with
     | false =>
      obtain⟨own',R',ha,hm,hel,hown,hlen⟩:=Ti (P:=P) (B:=B) (R:=R) (μ:=Bk) (o:=o') g1 g2 g3 g4 g5 hmu g6 (.inl rfl) g7 g8 g9
      have hdv:isV (vOf false d)=false:=Lr _ _
      exact Cu.append h (own:=.full) ⟨d,rfl⟩ (by rw[hrun _ ha];simp only[BZ,hdv,Bool.false_eq_true,if_false]) (.of hdv hm) hel hown hlen (.inl rfl) (fun _=>rfl) (fun t y e=>by cases e) hd
     | true =>
      have hdv:isV (vOf true d)=true:=Lr _ _
      have hne:ys=[]→es=[]:=fun hy=>by
       subst hy
       cases es with
       | nil=>rfl
       | cons x l=>exact absurd ⟨hmu,rfl⟩ hno
      obtain⟨own',R',ha,hm,hel,hown,hlen⟩:=SU (P:=P) (B:=B) (R:=R) (μ:=Bk) (o:=o') (i:=0) g1 g2 g3 g4 g5 hmu g6 hdv (Vd _ _) (.inl ⟨rfl,hne⟩) g7 g8 g9
      rw[if_pos rfl] at ha
      exact Cu.append h (own:=.full) ⟨d,rfl⟩ (hrun _ ha) hm hel hown hlen (.inl rfl) (fun _=>rfl) (fun t y e=>by cases e) hd
  ·rename_i i s es
   split at hl
   ·cases hl
   ·rename_i hne
    obtain⟨s',hs,hl⟩:=AE hl
    split at hl
    ·rename_i hss
     subst hss
     injection hl with hl;injection hl with h1 h2;injection h2 with h2 h3;subst h1 h2 h3
     obtain⟨el2,el',b,g1,g2,g3,g4,g5,g6,g7,g8,g9⟩:=TK hs
     have hmt:muT P t=Bk el2:=by unfold muT;rw[g1]
     rw[hmt] at hne ⊢
     have hea:pos.early≠true:=fun he=>hne (.inl he)
     have hiv:isV i=Bk el2:=Classical.byContradiction fun hh=>hne (.inr (.inl hh))
     have hnb:isB i=false:=by cases hb:isB i with
      | false=>rfl
      | true=>exact absurd (.inr (.inr hb)) hne
     have:ax=BZ i s' (ρ i) es:=hrx
     subst this
     have hvis:=hvx i s' es ⟨rfl,rfl,rfl⟩
     have htok:=h.tok i s' es hvis
     cases hmu:Bk el2 with
     | false =>
      rw[hmu] at hiv
      have hm0:ZW R (ρ i) es.length s':=by unfold Bt at htok;rw[if_neg (by rw[hiv];simp)] at htok;exact htok
      obtain⟨own',R',ha,hm,hel,hown,hlen⟩:=Ti (P:=P) (B:=B) (R:=R) (μ:=Bk) (o:=o') g1 g2 g3 g4 g5 hmu g6 hm0 g7 g8 g9
      have hdv:isV (vOf false d)=false:=Lr _ _
      have ha':EK P ⟨B,R,Bk⟩ t xt (BZ i s' (ρ i) es) (.slice o' ys)=some (BZ (vOf false d) s' own' (es++ys),⟨B,R',Bk⟩):=by
       simp only[BZ,hdv,hiv,Bool.false_eq_true,if_false];exact ha
      exact Cu.append h (own:=ρ i) ⟨d,rfl⟩ (hrun _ ha') (.of hdv hm) hel hown hlen (.inr ⟨rfl,s',es,hvis⟩) (fun he=>absurd he hea) (fun t y e=>by cases e) hd
     | true =>
      rw[hmu] at hiv
      have hdv:isV (vOf true d)=true:=Lr _ _
      obtain⟨own',R',ha,hm,hel,hown,hlen⟩:=SU (P:=P) (B:=B) (R:=R) (μ:=Bk) (o:=o') (i:=i) g1 g2 g3 g4 g5 hmu g6 hdv (Vd _ _) (.inr ⟨hiv,htok⟩) g7 g8 g9
      have ha':EK P ⟨B,R,Bk⟩ t xt (BZ i s' (ρ i) es) (.slice o' ys)=some (BZ (vOf true d) s' own' (es++ys),⟨B,R',Bk⟩):=by
       rw[← ha]
       split
       ·rename_i hf
        simp only[BZ,hiv,if_true,hf,hnb,Bool.false_eq_true,if_false]
       ·rfl
      exact Cu.append h (own:=ρ i) ⟨d,rfl⟩ (hrun _ ha') hm hel hown hlen (.inr ⟨rfl,s',es,hvis⟩) (fun he=>absurd he hea) (fun t y e=>by cases e) hd
    ·cases hl
  ·cases hl
 ·cases hl
theorem Lc {s:Nat}:∀ {es:List AV} (a:Nat),(∀ e∈es,e.cells.length=s)→(flatC es).take (a * s)=flatC (es.take a):=by
 intro es
 induction es with
 | nil=>intro a _;simp[flatC]
 | cons x l ih =>
  intro a h
  have hx:=h x List.mem_cons_self
  cases a with
  | zero=>simp[flatC]
  | succ a =>
   have:=ih a (fun e he=>h e (List.mem_cons_of_mem _ he))
   simp only[flatC,List.flatMap_cons,List.take_succ_cons] at this ⊢
   rw[show (a+1) * s=s+a * s by rw[Nat.add_mul];omega,← hx,List.take_length_add_append,hx,this]
theorem ABC {s:Nat}:∀ {es:List AV} (a:Nat),(∀ e∈es,e.cells.length=s)→(flatC es).drop (a * s)=flatC (es.drop a):=by
 intro es
 induction es with
 | nil=>intro a _;simp[flatC]
 | cons x l ih =>
  intro a h
  have hx:=h x List.mem_cons_self
  cases a with
  | zero=>simp[flatC]
  | succ a =>
   have:=ih a (fun e he=>h e (List.mem_cons_of_mem _ he))
   simp only[flatC,List.flatMap_cons,List.drop_succ_cons] at this ⊢
   rw[show (a+1) * s=s+a * s by rw[Nat.add_mul];omega,← hx,List.drop_length_add_append,hx,this]
theorem Cu.cutOp (h:BP P fr ℓ ρ c L env m) {x y:Operand} {t xt:TypeId} {dst:Option Tmp} {pos:Fu} {v vx vy:LV} {L1:AM} {pd:List Nat} {as_:Array Operand} {ts:Array TypeId} (has:as_.toList=[x,y]) (hts:ts.toList=[t,xt])
  (hx:levalA L x=some vx) (hy:levalA L y=some vy) (hl:YI P t xt vx vy dst pos.early L=some (v,L1,pd)) (hd:Hj env dst):Cu P ℓ c L env m (.call { callee:=.builtin .append,args:=as_,argTypes:=ts }) dst pos v L1 pd:=by
 obtain⟨hpl,⟨ax,hax,hrx⟩,hvx⟩:=h.levalA hx
 obtain⟨hpl2,⟨ay,hay,hry⟩,hvx2⟩:=h.levalA hy
 obtain⟨B,R,μ⟩:=m
 have hμ:μ=Bk:=h.mode
 subst hμ
 have hrun:∀ r,EK P ⟨B,R,Bk⟩ t xt ax ay=some r→aop P (.call { callee:=.builtin .append,args:=as_,argTypes:=ts }) env ⟨B,R,Bk⟩=some r:=by
  intro r hr
  simp only[aop,has,hts,EQ,List.mapM_cons,List.mapM_nil,Option.pure_def,Option.bind_eq_bind,hax,hay,Option.bind_some,FT]
  exact hr
 unfold YI at hl
 split at hl
 ·rename_i d i s k a i' s2 b n
  split at hl
  ·rename_i s3 es hf
   split at hl
   ·rename_i hc
    obtain⟨rfl,rfl,rfl,rfl,hea,hiv,hmt,hab,hbn,hs⟩:=hc
    injection hl with hl;injection hl with h1 h2;injection h2 with h2 h3;subst h1 h2 h3
    have hvis:=QB hf
    obtain⟨el2,el',bb,g1,g2,g3,g4,g5,g6,g7,g8,g9⟩:=TK hs
    have hmu:Bk el2=true:=by unfold muT at hmt;rw[g1] at hmt;exact hmt
    simp only[Bool.and_eq_true,decide_eq_true_eq] at g6
    obtain⟨id,hid,rfl⟩:∃ id,ρ i'=.row id∧ax=.vec id 0 a s3 .opn:=by
     rcases hrx with⟨_,h0,_⟩|⟨_,id,h1,h2⟩
     ·omega
     ·exact⟨id,h1,by rw[h2,Nat.zero_mul]⟩
    obtain⟨r1,r2,r3⟩:=Bt.vrow (by have:=h.tok i' s3 es hvis;rw[hid] at this;exact this) hiv
    have hlf:(flatC es).length=es.length * s3:=Bz r2
    have hm1:(es.take a).length=a:=by rw[List.length_take];omega
    have hm2:((es.drop b).take n).length=n:=by rw[List.length_take,List.length_drop];omega
    have l1:a * s3≤es.length * s3:=Nat.mul_le_mul_right _ (by omega)
    have l2:(b+n) * s3≤es.length * s3:=Nat.mul_le_mul_right _ hbn
    have l3:(a+n) * s3≤(b+n) * s3:=Nat.mul_le_mul_right _ (by omega)
    rw[Nat.add_mul] at l2 l3
    rw[Nat.add_mul] at l3
    have hcx:FU ⟨B,R,Bk⟩ s3 (.vec id 0 a s3 .opn)=some (flatC (es.take a),a):=by
     simp only[FU,r1]
     rw[if_pos ⟨trivial,by rw[hlf];omega⟩,List.drop_zero,Lc a r2]
    have hyc:FU ⟨B,R,Bk⟩ s3 ay=some (flatC ((es.drop b).take n),n):=by
     rcases hry with⟨h0,_,rfl⟩|⟨_,id',h1,rfl⟩
     ·subst h0
      simp[FU,flatC]
     ·rw[hid] at h1;injection h1 with h1;subst h1
      simp only[FU,r1]
      rw[if_pos ⟨trivial,by rw[hlf];omega⟩,ABC b r2,Lc n (fun e he=>r2 e (List.mem_of_mem_drop he))]
    have hidl:id<R.length:=(List.getElem?_eq_some_iff.1 r1).1
    have hall:∀ e∈es.take a++(es.drop b).take n,e.cells.length=s3:=fun e he=>(List.mem_append.1 he).elim (fun h=>r2 e (List.mem_of_mem_take h)) (fun h=>r2 e (List.mem_of_mem_drop (List.mem_of_mem_take h)))
    have hdv:isV (vOf true d)=true:=Lr _ _
    have hfl:flatC (es.take a++(es.drop b).take n)=flatC (es.take a)++flatC ((es.drop b).take n):=HS _ _
    have ha:EK P ⟨B,R,Bk⟩ t xt (.vec id 0 a s3 .opn) ay=some (BZ (vOf true d) s3 (.row id) (es.take a++(es.drop b).take n),⟨B,R.set id (some (0,flatC (es.take a++(es.drop b).take n))),Bk⟩):=by
     simp only[EK,GX,g1,g2,g3,g4,hcx,hyc]
     rw[if_pos ⟨g6.1,g6.2,g5,by rw[hm1,hm2] at g7;exact g7⟩]
     simp only[BZ,if_pos hdv,List.length_append,hm1,hm2]
     by_cases hn:n=0
     ·subst hn
      rw[if_pos rfl]
      simp only[Kv,r1,Mem.setRow]
      rw[Nat.zero_add,Lc a r2,Nat.add_zero,List.take_zero,List.append_nil]
     ·rw[if_neg hn]
      simp only[Yp,r1]
      rw[if_pos (by rw[hlf,Nat.add_mul];omega),Nat.zero_add,Nat.zero_add]
      simp only[Mem.setRow,Ca]
      rw[Lc a r2,hfl]
      have e1:(flatC (es.take a)).length=a * s3:=by rw[Bz (fun e he=>r2 e (List.mem_of_mem_take he)),hm1]
      have e2:(flatC ((es.drop b).take n)).length=n * s3:=by rw[Bz (fun e he=>r2 e (List.mem_of_mem_drop (List.mem_of_mem_take he))),hm2]
      rw[List.take_append_of_le_length (by rw[List.length_append,e1,e2,Nat.add_mul];omega),List.take_of_length_le (by rw[List.length_append,e1,e2,Nat.add_mul];omega)]
    refine Cu.append h (own:=.row id) ⟨d,rfl⟩ (hrun _ ha) ?_ (fun id' hne z hz=>?_) (.inl rfl) (by simp) (.inr ⟨hid.symm,s3,es,hvis⟩) (fun he=>by rw[he] at hea;cases hea) (fun t y e=>by cases e) hd
    ·unfold Bt
     rw[if_pos hdv]
     exact .inr ⟨id,rfl,by rw[List.getElem?_set_self hidl],hall,r3⟩
    ·rw[List.getElem?_set_ne (fun e=>hne (by rw[e]))];exact hz
   ·cases hl
  ·cases hl
 ·cases hl
theorem DU {α β:Type} {o:Option α} {f:α→β} {b:β} (h:o.map f=some b):∃ a,o=some a∧f a=b:=by
 cases o with
 | none=>cases h
 | some a=>injection h with h;exact⟨a,rfl,h⟩
theorem Wz (d:Nat) (l:List AV):CVs.free d (l.map .v)=true:=by
 induction l with
 | nil=>rfl
 | cons x l ih=>simp only[List.map_cons,CVs.free,CV.free,ih,Bool.and_self]
theorem AAQ {d:Nat} {x:Operand} {u:LV} (h:levalA L x=some u) (hok:FO d L=true):u.free d=true:=by
 simp only[FO,Bool.and_eq_true] at hok
 cases x with
 | tmp t =>
  obtain⟨v,h1,h2⟩:=AE h
  have e:v=u:=by cases v <;> simp only[LV.any] at h2 <;> first | (cases h2;done) | (injection h2)
  subst e
  exact Qu hok.1 t _ h1
 | const v=>obtain⟨a,_,rfl⟩:=DU h;rfl
 | func f=>injection h with h;subst h;rfl
 | global k =>
  have h:(Kl k).map LV.v=some u:=h
  cases ht:Kl k with
  | none=>rw[ht] at h;cases h
  | some a=>rw[ht] at h;injection h with h;subst h;rfl
theorem AAJ {d:Nat} {v:LV} {ys:List CV} (h:v.cells=some ys) (hf:v.free d=true):CVs.free d ys=true:=by
 cases v <;> simp only[LV.cells] at h <;> try cases h
 ·split at h
  ·injection h with h;subst h;exact Wz d _
  ·cases h
 ·rfl
 ·exact hf
 ·split at h
  ·injection h with h;subst h
   simp only[CVs.free,CV.free,Bool.and_true];exact hf
  ·cases h
 ·simp only[CVs.free,CV.free,Bool.and_true];exact hf
 ·simp only[CVs.free,CV.free,Bool.and_true];exact hf
theorem AKn {v:LV} {x:LA} {a:AV} (h:v.la2=some x) (hr:BK P fr ℓ ρ v a):LA.av ℓ x=a:=by
 unfold LV.la2 at h
 split at h
 ·injection h with h;subst h;exact hr.symm
 ·injection h with h;subst h;simp only[BK] at hr;subst hr;rfl
 ·injection h with h;subst h;simp only[BK] at hr;subst hr;rfl
 ·injection h with h;subst h;simp only[BK] at hr;subst hr;rfl
 ·cases h
theorem AES {v:LV} {x:LA} {a:AV} (h:v.la1=some x) (hr:BK P fr ℓ ρ v a):LA.av ℓ x=a.strip:=by
 unfold LV.la1 at h
 split at h
 ·injection h with h;subst h;simp only[BK] at hr;subst hr;rfl
 ·split at h
  ·cases h
  ·rename_i hv
   injection h with h;subst h;simp only[BK,BZ,if_neg hv] at hr;subst hr;rfl
 ·rename_i cs
  obtain⟨l,hl,rfl⟩:=DU h
  have:(LV.ag cs).rd=some (.agg l):=by simp only[LV.rd,hl,Option.map_some]
  exact(LV.rd_rel this hr).strip
 ·injection h with h;subst h;simp only[BK] at hr;subst hr;rfl
 ·injection h with h;subst h;simp only[BK] at hr;subst hr;rfl
 ·injection h with h;subst h;simp only[BK] at hr;subst hr;rfl
 ·cases h
theorem BP.levalsA (h:BP P fr ℓ ρ c L env m) {g:LV→Option LA} {T:AV→AV} (hg:∀ v x y,g v=some x→BK P fr ℓ ρ v y→LA.av ℓ x=T y):∀ {l:List Operand} {vs:List LV} {xs:List LA},levalsA L l=some vs→vs.mapM g=some xs→∃ as_,EQ env l=some as_∧LAs.av ℓ xs=as_.map T:=by
 intro l
 induction l with
 | nil=>intro vs xs h1 h2;simp[G.levalsA] at h1;subst h1;simp at h2;subst h2;exact⟨[],rfl,rfl⟩
 | cons o l ih =>
  intro vs xs h1 h2
  simp only[G.levalsA,List.mapM_cons,Option.pure_def,Option.bind_eq_bind] at h1
  obtain⟨v,h3,h1⟩:=AE h1
  obtain⟨vs',h4,h1⟩:=AE h1
  injection h1 with h1;subst h1
  simp only[List.mapM_cons,Option.pure_def,Option.bind_eq_bind] at h2
  obtain⟨x,h5,h2⟩:=AE h2
  obtain⟨xs',h6,h2⟩:=AE h2
  injection h2 with h2;subst h2
  obtain⟨_,⟨a,k1,k2⟩,_⟩:=h.levalA h3
  obtain⟨as_,k3,k4⟩:=ih h4 h6
  refine⟨a :: as_,?_,by simp only[LAs.av,List.map_cons,k4,hg v x a h5 k2]⟩
  simp only[EQ,List.mapM_cons,Option.pure_def,Option.bind_eq_bind,k1,Option.bind_some]
  rw[show l.mapM (BF env)=some as_ from k3];rfl
theorem LAs.av_val:∀ {l:List LA} {xs:List AV},l.mapM LA.val=some xs→LAs.av ℓ l=xs:=by
 intro l
 induction l with
 | nil=>intro xs h;simp at h;subst h;rfl
 | cons x l ih =>
  intro xs h
  simp only[List.mapM_cons,Option.pure_def,Option.bind_eq_bind] at h
  obtain⟨a,h1,h⟩:=AE h
  obtain⟨as_,h2,h⟩:=AE h
  injection h with h;subst h
  cases x <;> simp only[LA.val] at h1 <;> cases h1
  simp only[LAs.av,LA.av,ih h2]
theorem AGn {f:FuncId} {a b:List LA}:BK P fr ℓ ρ (WS f a b) (.func f (LAs.av ℓ a) (LAs.av ℓ b)):=by
 unfold WS
 split
 ·rename_i xs ys h1 h2;simp only[BK,LAs.av_val h1,LAs.av_val h2]
 ·rfl
theorem AF4 {f:FuncId} {a b:List LA} {i s:Nat} {es:List AV} (h:(WS f a b).has i s es):False:=by
 unfold WS at h
 split at h <;> exact h.elim
theorem Zl {kd:TypeDesc} {kv:Value}:∀ {es:List (Value × AV × Nat)} {i:Nat} {r:Option (Nat × AV)},KA kd kv (es.map fun e=>(e.1,e.2.1)) i=some r→Lm kd kv es i=some r:=by
 intro es
 induction es with
 | nil=>intro i r h;exact h
 | cons e es ih =>
  intro i r h
  simp only[List.map_cons,KA,Lm] at h ⊢
  cases hs:Go.Instr.sameNow kd kv e.1 with
  | none=>rw[hs] at h;cases h
  | some b =>
   rw[hs] at h
   cases b with
   | true=>exact h
   | false=>exact ih h
theorem AB0 {α β:Type} (f:α→β) (g:α→α) (g':β→β) (h:∀ a,f (g a)=g' (f a)) (l:List α) (i:Nat):(l.modify i g).map f=(l.map f).modify i g':=by
 apply List.ext_getElem?
 intro j
 rw[List.getElem?_map,List.getElem?_modify,List.getElem?_modify,List.getElem?_map]
 cases l[j]? with
 | none=>rfl
 | some a =>
  simp only[Option.map_eq_map,Option.map_some]
  split
  ·rw[h]
  ·rfl
theorem ABO {ℓ:Nat→Nat} {ρ:Nat→Own} {ents:List (Value × AV × Nat)} {clock:Nat} {kv:Value} {y:AV} {r:Option (Nat × AV)}:FH ℓ ρ [.mp (NS (ents.map fun e=>(e.1,e.2.1)) kv y r)] (JL ents clock kv y r):=by
 cases r with
 | none=>simp only[JL,FH,NS,List.map_append,List.map_cons,List.map_nil]
 | some p =>
  simp only[JL,FH,NS]
  rw[AB0 (f:=fun e:Value × AV × Nat=>(e.1,e.2.1)) (g':=fun _=>(kv,y))]
  intro a;rfl
theorem Cu.mkmap (h:BP P fr ℓ ρ c L env m) {t:TypeId} {dst:Option Tmp} {pos:Fu} {v:LV} {L1:AM} {pd:List Nat} (hx:Ug dst L=some (v,L1,pd)) (hd:Hj env dst):Cu P ℓ c L env m (.makeMap t none) dst pos v L1 pd:=by
 unfold Ug at hx
 split at hx
 ·rename_i d
  split at hx
  ·rename_i hok
   rw[Bool.and_eq_true,decide_eq_true_eq] at hok
   injection hx with hx;injection hx with h1 h2;injection h2 with h2 h3;subst h1 h2 h3
   have hr:=h.alloc (cs:=[.mp []]) (bx:=.map [] 0) hok.2 hok.1 rfl rfl (fun i s es hm=>by simp at hm)
   refine⟨_,_,fr,_,ρ,rfl,hr.put (v:=.mref d) (by simp[BK]) (fun i s es hh=>hh.elim) hd,fun _=>Ext.push _ _,fun t ht ⟨k,hk⟩=>⟨?_,?_,?_⟩,fun t y e=>by cases e⟩
   ·have hN:=hok.2
    simp only[FO,Bool.and_eq_true] at hN
    exact if_neg (LB hN.2 t k hk).1
   ·have:=h.boxLt hk
    simp only[Mem.push];rw[List.getElem?_append_left this]
   ·simp only[Dq,AI]
    split
    ·exact⟨_,rfl⟩
    ·exact⟨k,hk⟩
  ·cases hx
 ·cases hx
theorem BP.mapAt (h:BP P fr ℓ ρ c L env m) {t':Nat} {es:List (Value × AV)} (hes:(AI L.N t').bind OS=some es):∃ cs ents clock,AI L.N t'=some cs∧m.boxes[ℓ t']?=some (.map ents clock)∧es=ents.map fun e=>(e.1,e.2.1):=by
 obtain⟨cs,hc,hm⟩:=AE hes
 obtain⟨b,hb,hbr⟩:=h.locs t' cs hc
 obtain⟨ents,clock,rfl,he⟩:=hbr.mp hm
 exact⟨cs,ents,clock,hc,hb,he⟩
theorem Cu.lookup (h:BP P fr ℓ ρ c L env m) {t:TypeId} {x i:Operand} {ok:Bool} {dst:Option Tmp} {pos:Fu} {v p:LV} {k:AV} {L1:AM} {pd:List Nat} (hp:levalA L x=some p) (hk:leval L i=some k) (hx:Nr P t p k ok pos.late L=some (v,L1,pd)) (hd:Hj env dst):Cu P ℓ c L env m (.lookup t x i ok) dst pos v L1 pd:=by
 unfold Nr at hx
 split at hx
 ·rename_i t'
  split at hx
  ·cases hx
  ·obtain⟨q,hq,hx⟩:=AE hx
   obtain⟨kd,hkd,hx⟩:=AE hx
   obtain⟨kv,hkv,hx⟩:=AE hx
   obtain⟨es,hes,hx⟩:=AE hx
   obtain⟨r,hr,hx⟩:=AE hx
   obtain⟨a,ha,hx⟩:=DU hx
   injection hx with h1 h2;injection h2 with h2 h3;subst h1 h2 h3
   obtain⟨cs,ents,clock,_,hb,rfl⟩:=h.mapAt hes
   obtain⟨_,⟨pa,hpa,hpr⟩,_⟩:=h.levalA hp
   have hpr:pa=.map (ℓ t'):=hpr
   subst hpr
   have hlk:Lv P m t (.map (ℓ t')) k ok=some a:=by
    simp only[Lv,hq,Option.bind_some,hkd,hkv,YB,hb,Zl hr];exact ha
   exact .same h (by simp[aop,hpa,h.leval hk,hlk]) rfl (fun i s es hh=>hh.elim) hd (fun t y e=>by cases e)
 ·cases hx
def AGj (a b:AV):Prop:=a=b∨(a=.ptr 0 0∧∃ l off,b=.ptr l off)
theorem BP.levalC (h:BP P fr ℓ ρ c L env m) {x:Operand} {a:AV} (hx:G.levalC L x=some a):∃ b,BF env x=some b∧AGj a b:=by
 obtain⟨v,h1,h2⟩:=AE hx
 obtain⟨_,⟨b,h3,h4⟩,_⟩:=h.levalA h1
 refine⟨b,h3,?_⟩
 cases v <;> simp only[LV.cmpv] at h2 <;> first | (injection h2 with h2;subst h2;first | exact .inl h4.symm | exact .inr ⟨rfl,_,_,h4⟩) | cases h2
omit [Mu] in
theorem AGd {op:BinOp} {t:TypeId} {a:AV} {l off:Nat}:Bq P op t a (.ptr l off)=none:=by
 cases a <;> try rfl
 rename_i v
 cases v <;> try rfl
 rename_i q
 cases q <;> rfl
omit [Mu] in
theorem AFw {op:BinOp} {t:TypeId} {a b a' b' d:AV} (ha:AGj a a') (hb:AGj b b') (h:Bq P op t a b=some d):Bq P op t a' b'=some d:=by
 rcases hb with rfl | ⟨rfl,l',off',rfl⟩
 ·rcases ha with rfl | ⟨rfl,l,off,rfl⟩
  ·exact h
  ·cases b <;> try exact h
   rename_i v
   cases v <;> try exact h
   rename_i q
   cases q <;> exact h
 ·rw[AGd] at h;cases h
theorem Cu.mapset (h:BP P fr ℓ ρ c L env m) {op:Op} {t:TypeId} {a k x:Operand} {dst:Option Tmp} {pos:Fu} {v p:LV} {kv y:AV} {L1:AM} {pd:List Nat} (hp:levalA L a=some p) (hk:leval L k=some kv) (hy:levalR L x=some y) (hs:KZ P t p kv y pos L=some (v,L1,pd)) (hd:Hj env dst)
  (ho:∀ p kv v m',BF env a=some p→BF env k=some kv→BF env x=some v→GM P m t p kv v=some m'→aop P op env m=some (.undef,m')) (hnl:∀ t y,op≠.load t y):Cu P ℓ c L env m op dst pos v L1 pd:=by
 unfold KZ at hs
 split at hs
 ·rename_i t'
  split at hs
  ·rename_i hc
   obtain⟨c0,c1,c2,c3⟩:=hc
   obtain⟨q,hq,hs⟩:=AE hs
   obtain⟨kd,hkd,hs⟩:=AE hs
   obtain⟨kk,hkk,hs⟩:=AE hs
   obtain⟨es,hes,hs⟩:=AE hs
   obtain⟨r,hr,hs⟩:=DU hs
   injection hs with h1 h2;injection h2 with h2 h3;subst h1 h2 h3
   obtain⟨cs,ents,clock,hl,hb,rfl⟩:=h.mapAt hes
   obtain⟨_,⟨pa,hpa,hpr⟩,_⟩:=h.levalA hp
   have hpr:pa=.map (ℓ t'):=hpr
   subst hpr
   obtain⟨y',hy',heq⟩:=h.levalR hy
   have hset:GM P m t (.map (ℓ t')) kv y'=some (m.set (ℓ t') (JL ents clock kk y.strip r)):=by
    simp only[GM,hb,hq,Option.bind_some,hkd,hkk]
    rw[if_pos (by rw[← heq.cells.2.1];exact c3),Zl hr,heq.strip];rfl
   have hrel:=h.setVar (ds:=[.mp (NS (ents.map fun e=>(e.1,e.2.1)) kk y.strip r)]) (bx:=JL ents clock kk y.strip r) hl (of_decide_eq_true c0) ABO (fun i s es hm=>by simp at hm)
   refine⟨.undef,_,fr,ℓ,ρ,ho _ _ _ _ hpa (h.leval hk) hy' hset,hrel.put (v:=.v .undef) rfl (fun i s es hh=>hh.elim) hd,fun he=>(by rw[c1] at he;cases he),fun t0 ht0 ⟨k,hk⟩=>⟨rfl,?_,?_⟩,fun t y e=>absurd e (hnl t y)⟩
   ·have hne':t'≠t0:=by
     rintro rfl
     rw[List.contains_iff_mem.2 ht0] at c2;cases c2
    simp only[Mem.set]
    rw[List.getElem?_set_ne (fun he=>hne' (h.inj t' t0 _ _ hl hk he))]
   ·simp only[Dq,AI]
    split
    ·exact⟨_,rfl⟩
    ·exact⟨k,hk⟩
  ·cases hs
 ·cases hs
theorem ALT (h:BP P fr ℓ ρ c L env m) {op:Op} {dst:Option Tmp} {pos:Fu} {v:LV} {L1:AM} {pd:List Nat} (hop:lop P op dst pos L=some (v,L1,pd)) (hd:Hj env dst):Cu P ℓ c L env m op dst pos v L1 pd:=by
 have same:∀ {x:Operand},JR L (levalA L x)=some (v,L1,pd)→(∀ a,BF env x=some a→aop P op env m=some (a,m))→(∀ t y,op≠.load t y)→Cu P ℓ c L env m op dst pos v L1 pd:=by
  intro x hx ho hnl
  obtain⟨h1,rfl,rfl⟩:=IN hx
  obtain⟨g1,⟨a,g2,g3⟩,g4⟩:=h.levalA h1
  exact .same h (ho a g2) g3 g4 hd (fun t y e=>absurd e (hnl t y))
 unfold lop at hop
 split at hop
 ·exact same hop (fun a ha=>by simp[aop,ha]) (fun t y e=>by cases e)
 ·exact same hop (fun a ha=>by simp[aop,ha]) (fun t y e=>by cases e)
 ·-- pick
  rename_i c a b
  obtain⟨h1,rfl,rfl⟩:=IN hop
  unfold ABz at h1
  split at h1
  ·rename_i t hc
   obtain⟨g1,⟨x,g2,g3⟩,g4⟩:=h.levalA h1
   exact .same h (by simp[aop,h.leval hc,g2]) g3 g4 hd (fun t y e=>by cases e)
  ·cases h1
 ·-- alloc
  rename_i t
  refine .alloc h hop (fun cs hcs=>?_) (fun t y e=>by cases e) hd
  obtain⟨zs,hz,rfl⟩:=DU hcs
  refine⟨zs,by simp[aop,hz],⟨by simp,fun j c a hj ha=>?_⟩,fun d _=>Wz d zs,fun i s es hh=>by simp at hh⟩
  rw[List.getElem?_map,ha] at hj
  injection hj with hj;subst hj;exact rfl
 ·-- box
  rename_i t x
  refine .alloc h hop (fun cs hcs=>?_) (fun t y e=>by cases e) hd
  obtain⟨u,hu,hcs⟩:=AE hcs
  obtain⟨hpl,⟨a,ha,har⟩,hvis⟩:=h.levalA hu
  obtain⟨k1,k2,k3⟩:=Qt hcs (har)
  exact⟨a.cells,by simp[aop,ha,k2],k1,fun d hok=>AAJ hcs (AAQ hu hok),fun i s es hh=>hvis i s es (k3 i s es hh)⟩
 ·-- build
  rename_i t ps
  refine .pure h hop (fun a ha=>?_) (fun t y e=>by cases e) hd
  obtain⟨l,hl,ha⟩:=AE ha
  obtain⟨l',h1,h2,h3⟩:=h.lparts hl
  simp only[aop,h1,Option.bind_some,ADU ⟨h2,h3⟩,ha,Option.map_some]
 ·-- buildSlice
  rename_i t len ps
  unfold Yf at hop
  obtain⟨a,hq,hop⟩:=AE hop
  obtain⟨l,hl,ha⟩:=AE hq
  clear hq
  obtain⟨l',h1,h2,h3⟩:=h.lparts hl
  have haop:aop P (.buildSlice t len ps) env m=some (LP P t m a):=by
   simp only[aop,h1,Option.bind_some,VS ⟨h2,h3⟩,ha,Option.map_some]
  split at hop
  ·rename_i hc
   obtain⟨hc1,hc2⟩:=hc
   split at hop
   ·rename_i d s o es hsz hold
    clear hold
    injection hop with hop;injection hop with e1 hop;injection hop with e2 e3;subst e1 e2 e3
    obtain⟨el,hel,hmu⟩:∃ el,Bn P t=some el∧Bk el=true:=by
     unfold muT at hc2
     cases he:Bn P t with
     | none=>rw[he] at hc2;cases hc2
     | some el=>rw[he] at hc2;exact⟨el,rfl,hc2⟩
    rw[hel] at hsz
    have hs:Av P el=some s:=hsz
    obtain⟨x,y,l2,rfl,rfl⟩:∃ x y l2,o=.full∧es=x :: y :: l2:=by
     unfold Qk at hc1
     split at hc1
     ·rename_i heq;injection heq with e1 e2;exact⟨_,_,_,e1,e2⟩
     ·cases hc1
    obtain⟨h0,hall⟩:0<s∧∀ e∈x :: y :: l2,e.cells.length=s:=by
     unfold DI at ha
     rw[hel] at ha
     dsimp only at ha
     rw[hs] at ha
     dsimp only at ha
     split at ha
     ·rename_i hcond
      injection ha with ha;injection ha with _ ha
      refine⟨hcond.1,fun e he=>?_⟩
      rw[← ha] at he
      obtain⟨p,hp,rfl⟩:=List.mem_map.1 he
      rw[Ks,List.length_map];exact(hcond.2.2.2.2 p hp).1
     ·cases ha
    have hdv:isV (vOf true d)=true:=Lr _ _
    have hdb:isB (vOf true d)=false:=Vd _ _
    have hal:LP P t m (.slice .full (x :: y :: l2))=(BZ (vOf true d) s (.row m.rows.length) ([]++(x :: y :: l2)),{ m with rows:=m.rows++[some (0,flatC (x :: y :: l2))] }):=by
     unfold LP
     rw[hel]
     have hmode:m.mode el=true:=by rw[h.mode];exact hmu
     simp only[Option.bind_some,hs,hmode,if_true,BZ,hdv,List.nil_append]
     rfl
    refine Cu.append h (own:=.full) (es:=[]) (ys:=x :: y :: l2) (R':=m.rows++[some (0,flatC (x :: y :: l2))]) (own':=.row m.rows.length) ⟨d,rfl⟩ (haop.trans (congrArg some hal)) ?_ (fun id _ z hz=>?_) (.inr rfl) (by simp) (.inl rfl) (fun _=>rfl) (fun t y e=>by cases e) hd
    ·unfold Bt
     rw[if_pos hdv]
     exact .inr ⟨m.rows.length,rfl,by rw[List.nil_append,List.getElem?_append_right (Nat.le_refl _),Nat.sub_self];rfl,by rw[List.nil_append];exact hall,h0⟩
    ·rw[List.getElem?_append_left (List.getElem?_eq_some_iff.1 hz).1];exact hz
   ·cases hop
  ·rename_i hc
   have hal:LP P t m a=(a,m):=by
    unfold LP
    split
    ·rename_i e e2 l3 el s he hs
     rw[if_neg]
     intro hm
     refine hc ⟨rfl,?_⟩
     unfold muT
     rw[he]
     have:=h.mode
     rw[this] at hm
     exact hm
    ·rfl
   rw[hal] at haop
   refine .pure (x:=some a) h (by simpa only[Gi,Option.map_some] using hop) (fun b hb=>?_) (fun t y e=>by cases e) hd
   injection hb with hb;subst hb
   exact haop
 ·-- load
  rename_i t x
  obtain⟨p,hp,hop⟩:=AE hop
  obtain⟨hpl,⟨a,ha,har⟩,hvx⟩:=h.levalA hp
  unfold Tw at hop
  split at hop
  ·rename_i t' off
   split at hop
   ·rename_i cs hc
    split at hop
    ·cases hop
    rename_i hmp
    obtain⟨u,hu,hop⟩:=DU hop
    injection hop with h1 h2;injection h2 with h2 h3;subst h1 h2 h3
    have:a=.ptr (ℓ t') off:=har
    subst this
    obtain⟨bx,hbox,hbr⟩:=h.locs t' _ hc
    obtain⟨as_,rfl,hcr⟩:=hbr.nomp (by simpa using hmp)
    obtain⟨r,k1,k3,k4⟩:=RP (P:=P) (fr:=fr) hu hcr
    have hld:Fo P m t (.ptr (ℓ t') off)=some r:=by simp only[Fo,hbox];exact k1
    refine .same h (by simp[aop,ha,hld]) k3 (fun i s es hh=>.inr ⟨t',_,hc,k4 i s es hh⟩) hd (fun t0 y e=>?_)
    injection e with e1 e2;subst e1 e2
    refine⟨fun hlate=>⟨_,ha,hld,.inr ⟨t',off,by simp[hlate],rfl⟩⟩,fun t0 ht0=>?_⟩
    split at ht0
    ·simp at ht0;subst ht0;exact⟨cs,hc⟩
    ·cases ht0
   ·cases hop
  ·rename_i e off
   obtain⟨u,hu,hop⟩:=DU hop
   injection hop with h1 h2;injection h2 with h2 h3;subst h1 h2 h3
   have:a=.eptr e off:=har
   subst this
   have hld:Fo P m t (.eptr e off)=some u:=hu
   refine .same h (by simp[aop,ha,hld]) rfl (fun i s es hh=>hh.elim) hd (fun t0 y e=>?_)
   injection e with e1 e2;subst e1 e2
   exact⟨fun hlate=>⟨_,ha,hld,.inl ⟨_,_,rfl⟩⟩,fun t0 ht0=>by cases ht0⟩
  ·rename_i i s k off
   split at hop
   ·cases hop
   ·rename_i hnl
    split at hop
    ·rename_i s' es hf
     split at hop
     ·cases hop
     ·rename_i hss
      have hvi:isV i=true:=by cases hh:isV i with
       | true=>rfl
       | false=>exact absurd (.inr hh) hss
      have hss:s'=s:=Classical.byContradiction fun hh=>hss (.inl hh)
      subst hss
      obtain⟨e,he,hop⟩:=AE hop
      obtain⟨u,hu,hop⟩:=DU hop
      injection hop with h1 h2;injection h2 with h2 h3;subst h1 h2 h3
      obtain⟨id,hid,rfl⟩:=har
      have hv:Vis L i s' es:=QB hf
      have htok:=h.tok i s' es hv
      rw[hid] at htok
      have hld:Fo P m t (.vptr id (k * s'+off))=some u:=by
       unfold Bt at htok
       split at htok
       ·rcases htok with⟨h5,_⟩|⟨id',h5,h6,h7,_⟩
        ·cases h5
        ·injection h5 with h5;subst h5
         simp only[Fo,h6]
         exact AGp h7 he hu
       ·rename_i hv0
        exact absurd hvi hv0
      refine .same h (by simp[aop,ha,hld]) rfl (fun i s es hh=>hh.elim) hd (fun t0 y e=>?_)
      injection e with e1 e2;subst e1 e2
      exact⟨fun hlate=>absurd hlate hnl,fun t0 ht0=>by cases ht0⟩
    ·cases hop
  ·cases hop
 ·-- store
  rename_i t x y
  obtain⟨p,hp,hop⟩:=AE hop
  obtain⟨u,hu,hop⟩:=AE hop
  exact .store h hp hu hop hd
 ·-- nilCheck
  rename_i x
  obtain⟨h1,rfl,rfl⟩:=IN hop
  obtain⟨u,hu,h1⟩:=AE h1
  obtain⟨g1,⟨a,g2,g3⟩,g4⟩:=h.levalA hu
  have e:v=u∧aop P (.nilCheck x) env m=some (a,m):=by
   unfold AGf at h1
   have g30:=g3
   split at h1
   ·injection h1 with h1;subst h1
    simp only[BK] at g30;subst g30
    exact⟨rfl,by simp[aop,g2]⟩
   ·injection h1 with h1;subst h1
    simp only[BK] at g30;subst g30
    exact⟨rfl,by simp[aop,g2]⟩
   ·injection h1 with h1;subst h1
    simp only[BK] at g30;subst g30
    exact⟨rfl,by simp[aop,g2]⟩
   ·injection h1 with h1;subst h1
    simp only[BK] at g30;subst g30
    exact⟨rfl,by simp[aop,g2]⟩
   ·injection h1 with h1;subst h1
    obtain⟨id,_,rfl⟩:=g30
    exact⟨rfl,by simp[aop,g2]⟩
   ·cases h1
  obtain⟨rfl,ho⟩:=e
  exact .same h ho g3 g4 hd (fun t y e=>by cases e)
 ·-- binOp
  rename_i bop t x y _
  refine .pure h hop (fun a ha=>?_) (fun t y e=>by cases e) hd
  obtain⟨a1,h1,ha⟩:=AE ha
  obtain⟨a2,h2,ha⟩:=AE ha
  obtain⟨b1,k1,c1⟩:=h.levalC h1
  obtain⟨b2,k2,c2⟩:=h.levalC h2
  simp[aop,k1,k2,AFw c1 c2 ha]
 ·rename_i uop _ x
  refine .pure h hop (fun a ha=>?_) (fun t y e=>by cases e) hd
  obtain⟨a1,h1,ha⟩:=AE ha
  simp[aop,h.leval h1,ha]
 ·rename_i s t x
  refine .pure h hop (fun a ha=>?_) (fun t y e=>by cases e) hd
  obtain⟨a1,h1,ha⟩:=AE ha
  simp only[aop,h.leval h1,Option.bind_some]
  unfold Ox at ha
  split at ha
  ·rename_i e1 e2
   injection ha with ha;subst ha
   simp only[e1,e2]
  ·cases ha
 ·-- makeFunc
  rename_i f first cap
  obtain⟨h1,rfl,rfl⟩:=IN hop
  obtain⟨a,h2,h1⟩:=AE h1
  obtain⟨b,h3,rfl⟩:=DU h1
  obtain⟨vs,h4,h5⟩:=AE h2
  obtain⟨ws,h6,h7⟩:=AE h3
  obtain⟨as_,k1,k2⟩:=h.levalsA (g:=LV.la1) (T:=AV.strip) (fun v x y h1 h2=>AES h1 h2) h4 h5
  obtain⟨bs,k3,k4⟩:=h.levalsA (g:=LV.la2) (T:=id) (fun v x y h1 h2=>AKn h1 h2) h6 h7
  rw[List.map_id] at k4
  exact .same h (a:=.func f (LAs.av ℓ a) (LAs.av ℓ b)) (by simp[aop,k1,k3,k2,k4]) AGn (fun i s es hh=>(AF4 hh).elim) hd (fun t y e=>by cases e)
 ·-- slice
  rename_i t x lo hi mx
  cases hq:Vh P t (levalA L x) (lopt L lo) (lopt L hi) (lopt L mx) with
  | none =>
   rw[hq] at hop
   refine .pure h hop (fun a ha=>?_) (fun t y e=>by cases e) hd
   obtain⟨a1,h1,ha⟩:=AE ha
   obtain⟨a2,h2,ha⟩:=AE ha
   obtain⟨a3,h3,ha⟩:=AE ha
   obtain⟨a4,h4,ha⟩:=AE ha
   obtain⟨b1,g1,g2⟩:=h.levalR h1
   simp only[aop,g1,h.lopt h2,h.lopt h3,h.lopt h4,Option.bind_some,AD0 g2,ha,Option.map_some]
  | some v0 =>
   rw[hq] at hop
   injection hop with hop;injection hop with e1 hop;injection hop with e2 e3;subst e1 e2 e3
   unfold Vh at hq
   split at hq
   ·rename_i i s es l0 h0 s' q1 q2 q3 q4 q5
    split at hq
    ·rename_i l hh b1 b2
     split at hq
     ·rename_i hc
      obtain⟨c1,rfl,c3,c4,c5,c6⟩:=hc
      injection hq with hq;subst hq
      obtain⟨hpl,⟨ax,hax,hrx⟩,hvx⟩:=h.levalA q1
      have hvis:=hvx i s' es ⟨rfl,rfl,rfl⟩
      have htok:=h.tok i s' es hvis
      obtain⟨id,hid⟩:∃ id,ρ i=.row id:=by
       unfold Bt at htok
       rw[if_pos c1] at htok
       rcases htok with⟨_,h5⟩|⟨id,hid,_⟩
       ·subst h5;simp at c6
       ·exact⟨id,hid⟩
      have hax2:ax=.vec id 0 es.length s' .opn:=by
       simp only[BK,BZ,if_pos c1,hid] at hrx;exact hrx
      subst hax2
      obtain⟨el,q6,q7⟩:=AE q5
      have run:∀ r,GZ P t (.vec id 0 es.length s' .opn) l0 h0 none=some r→aop P (.slice t x lo hi mx) env m=some (r,m):=by
       intro r hr
       simp only[aop,hax,h.lopt q2,h.lopt q3,h.lopt q4,Option.bind_some,hr,Option.map_some]
      by_cases hz:l=hh∧0<l
      ·refine .same h (run (.slice .foreign []) ?_) (.inl ⟨by omega,by omega,rfl⟩) (fun i s es hv=>hv.elim) hd (fun t y e=>by cases e)
       simp only[GZ,q6,q7,b1,b2,show GD none es.length=some (es.length:Int) from rfl]
       rw[if_pos ⟨c3,c4,c5,Int.le_refl _,by simp,trivial⟩,if_pos hz];rfl
      ·refine .same h (run (.vec id (l.toNat * s') (hh - l).toNat s' .opn) ?_) (.inr ⟨by omega,id,hid,rfl⟩) (fun i s es hv=>hv.elim) hd (fun t y e=>by cases e)
       simp only[GZ,q6,q7,b1,b2,show GD none es.length=some (es.length:Int) from rfl]
       rw[if_pos ⟨c3,c4,c5,Int.le_refl _,by simp,trivial⟩,if_neg hz]
       simp
     ·cases hq
    ·cases hq
   ·cases hq
 ·-- fieldAddr
  rename_i t x f
  obtain⟨h1,rfl,rfl⟩:=IN hop
  obtain⟨u,hu,h1⟩:=AE h1
  obtain⟨hpl,⟨a,ha,har⟩,hvx⟩:=h.levalA hu
  have har0:=har
  unfold OQ at h1
  split at h1
  ·rename_i t' off
   split at h1
   ·rename_i ft o hf
    split at h1
    ·rename_i k hz
     injection h1 with h1;subst h1
     simp only[BK] at har0;subst har0
     refine .same (a:=.ptr (ℓ t') (off+o)) h ?_ rfl (fun i s es hh=>hh.elim) hd (fun t y e=>by cases e)
     simp[aop,ha,GH,hf,hz]
    ·cases h1
   ·cases h1
  ·rename_i e off
   obtain⟨b,hb,rfl⟩:=DU h1
   simp only[BK] at har0;subst har0
   exact .same h (by simp[aop,ha,hb]) rfl (fun i s es hh=>hh.elim) hd (fun t y e=>by cases e)
  ·rename_i i s k0 off
   split at h1
   ·rename_i ft o hf
    split at h1
    ·rename_i k hz
     injection h1 with h1;subst h1
     obtain⟨id,hid,rfl⟩:=har0
     refine .same (a:=.vptr id (k0 * s+off+o)) h ?_ ⟨id,hid,by rw[Nat.add_assoc]⟩ (fun i s es hh=>hh.elim) hd (fun t y e=>by cases e)
     simp[aop,ha,GH,hf,hz]
    ·cases h1
   ·cases h1
  ·cases h1
 ·-- field
  rename_i t x f
  refine .pure h hop (fun a ha=>?_) (fun t y e=>by cases e) hd
  obtain⟨a1,h1,ha⟩:=AE ha
  simp[aop,h.leval h1,ha]
 ·-- indexAddr
  rename_i t x i
  obtain⟨h1,rfl,rfl⟩:=IN hop
  obtain⟨u,hu,h10⟩:=AE h1
  clear h1
  obtain⟨k,hk,h1⟩:=AE h10
  clear h10
  obtain⟨hpl,⟨a,ha,har⟩,hvx⟩:=h.levalA hu
  have har0:=har
  have hk':=h.leval hk
  unfold OD at h1
  split at h1
  ·rename_i t' off
   split at h1
   ·rename_i n len e hat
    split at h1
    ·rename_i s hz
     split at h1
     ·rename_i hc
      injection h1 with h1;subst h1
      simp only[BK] at har0;subst har0
      refine .same (a:=.ptr (ℓ t') (off+n.toNat * s)) h ?_ rfl (fun i s es hh=>hh.elim) hd (fun t y e=>by cases e)
      simp only[aop,ha,hk',Option.bind_some,EM,hat,hz]
      rw[if_pos hc];rfl
     ·cases h1
    ·cases h1
   ·cases h1
  ·rename_i j s es
   split at h1
   ·rename_i hv
    split at h1
    ·rename_i n e hel
     split at h1
     ·rename_i s' hz
      split at h1
      ·rename_i hc
       injection h1 with h1;subst h1
       obtain⟨rfl,hc1,hc2⟩:=hc
       have htok:=h.tok j s' es (hvx j s' es ⟨rfl,rfl,rfl⟩)
       unfold Bt at htok
       rw[if_pos hv] at htok
       rcases htok with⟨_,h5⟩|⟨id,hid,_⟩
       ·subst h5;simp at hc2;omega
       ·simp only[BK,BZ,if_pos hv,hid] at har0;subst har0
        refine .same (a:=.vptr id (0+n.toNat * s')) h ?_ ⟨id,hid,by simp⟩ (fun i s es hh=>hh.elim) hd (fun t y e=>by cases e)
        simp only[aop,ha,hk',Option.bind_some,EM,hel,hz]
        rw[if_pos ⟨trivial,hc1,by exact_mod_cast hc2⟩];rfl
      ·cases h1
     ·cases h1
    ·cases h1
   ·rename_i hv
    obtain⟨b,hb,rfl⟩:=DU h1
    simp only[BK,BZ,if_neg hv] at har0;subst har0
    refine .same h (a:=b) ?_ rfl (fun i s es hh=>hh.elim) hd (fun t y e=>by cases e)
    simp only[aop,ha,hk',Option.bind_some]
    rw[Xf (o':=.foreign),hb];rfl
  ·obtain⟨b,hb,rfl⟩:=DU h1
   simp only[BK] at har0;subst har0
   exact .same h (a:=b) (by simp[aop,ha,hk',hb]) rfl (fun i s es hh=>hh.elim) hd (fun t y e=>by cases e)
  ·cases h1
 ·-- index
  rename_i t x i
  refine .pure h hop (fun a ha=>?_) (fun t y e=>by cases e) hd
  obtain⟨a1,h1,ha⟩:=AE ha
  obtain⟨a2,h2,ha⟩:=AE ha
  simp[aop,h.leval h1,h.leval h2,ha]
 ·-- extract
  rename_i t i
  refine .pure h hop (fun a ha=>?_) (fun t y e=>by cases e) hd
  obtain⟨a1,h1,ha⟩:=AE ha
  simp only[aop,h.leval h1,Option.bind_some]
  unfold TD at ha
  split at ha
  ·simp[ha]
  ·cases ha
 ·-- len
  rename_i as_ ts
  refine .pure h hop (fun a ha=>?_) (fun t y e=>by cases e) hd
  obtain⟨l,hl,ha⟩:=AE ha
  have one:∀ {v:LV},l=[v]→∃ x,EQ env as_.toList=some [x]∧BK P fr ℓ ρ v x:=by
   intro v hv
   subst hv
   generalize as_.toList=xs at hl
   cases xs with
   | nil=>simp[G.levalsA] at hl
   | cons x0 tl =>
    simp only[G.levalsA,List.mapM_cons,Option.pure_def,Option.bind_eq_bind] at hl
    obtain⟨v0,k1,hl⟩:=AE hl
    obtain⟨vs,k2,hl⟩:=AE hl
    injection hl with hl;injection hl with e1 e2
    subst e1 e2
    cases tl with
    | nil =>
     obtain⟨_,⟨a0,k3,k4⟩,_⟩:=h.levalA k1
     exact⟨a0,by simp only[EQ,List.mapM_cons,List.mapM_nil,Option.pure_def,Option.bind_eq_bind,k3,Option.bind_some],k4⟩
    | cons y tl =>
     simp only[List.mapM_cons,Option.pure_def,Option.bind_eq_bind] at k2
     obtain⟨_,_,k2⟩:=AE k2
     obtain⟨_,_,k2⟩:=AE k2
     injection k2 with k2;cases k2
  split at ha
  ·rename_i t tl i s es hts
   obtain⟨x,h1,h2⟩:=one rfl
   simp only[aop,h1,Option.bind_some]
   have:MS P t x=some a:=by
    rw[← ha]
    simp only[BK] at h2;subst h2
    unfold BZ
    split
    ·split
     ·unfold MS;rcases P.underlying t with _ | d <;> first | rfl | (cases d <;> rfl)
     ·unfold MS;rcases P.underlying t with _ | d <;> first | rfl | (cases d <;> rfl)
    ·unfold MS;rcases P.underlying t with _ | d <;> first | rfl | (cases d <;> rfl)
   simp only[FT,this,Option.map_some,hts]
  ·rename_i t tl y hts
   obtain⟨x,h1,h2⟩:=one rfl
   simp only[BK] at h2;subst h2
   simp only[aop,h1,Option.bind_some,FT,ha,Option.map_some,hts]
  ·cases ha
 ·rename_i as_ ts
  refine .pure h hop (fun a ha=>?_) (fun t y e=>by cases e) hd
  obtain⟨l,hl,ha⟩:=AE ha
  simp[aop,h.levals hl,FT,ha]
 ·rename_i as_ ts
  refine .pure h hop (fun a ha=>?_) (fun t y e=>by cases e) hd
  obtain⟨l,hl,ha⟩:=AE ha
  simp[aop,h.levals hl,FT,ha]
 ·rename_i as_ ts
  split at hop
  ·rename_i x y t xt has hts
   obtain⟨vx,hx,hop⟩:=AE hop
   split at hop
   ·obtain⟨vy,hy,hop⟩:=AE hop
    exact .cutOp h has hts hx hy hop hd
   ·obtain⟨vy,hy,hop⟩:=AE hop
    exact .appendOp h has hts hx hy hop hd
  ·cases hop
 ·-- makeMap
  exact .mkmap h hop hd
 ·-- lookup
  rename_i t x i ok
  obtain⟨p,hp,hop⟩:=AE hop
  obtain⟨k,hk,hop⟩:=AE hop
  exact .lookup h hp hk hop hd
 ·-- mapUpdate
  rename_i t a k x
  obtain⟨p,hp,hop⟩:=AE hop
  obtain⟨kv,hk,hop⟩:=AE hop
  obtain⟨y,hy,hop⟩:=AE hop
  exact .mapset h hp hk hy hop hd (fun p kv v m' h1 h2 h3 h4=>by simp[aop,h1,h2,h3,h4]) (fun t y e=>by cases e)
 ·-- insert
  rename_i t a k x
  obtain⟨p,hp,hop⟩:=AE hop
  obtain⟨kv,hk,hop⟩:=AE hop
  obtain⟨y,hy,hop⟩:=AE hop
  exact .mapset h hp hk hy hop hd (fun p kv v m' h1 h2 h3 h4=>by simp[aop,h1,h2,h3,h4]) (fun t y e=>by cases e)
 ·cases hop
end
end
section
def rn:List (Nat × Nat)→Nat→Nat
 | [],t=>t
 | (a,b) :: l,t=>if a=t then b else rn l t
mutual
def LA.ren (τ:List (Nat × Nat)):LA→LA
 | .a x=>.a x
 | .p t=>.p (rn τ t)
 | .m t=>.m (rn τ t)
 | .fn f first cap=>.fn f (LAs.ren τ first) (LAs.ren τ cap)
def LAs.ren (τ:List (Nat × Nat)):List LA→List LA
 | []=>[]
 | x :: l=>LA.ren τ x :: LAs.ren τ l
end
mutual
theorem LA.av_ren {τ:List (Nat × Nat)} {ℓ:Nat→Nat}:∀ {x:LA},LA.av ℓ (LA.ren τ x)=LA.av (fun t=>ℓ (rn τ t)) x
 | .a x=>rfl
 | .p t=>rfl
 | .m t=>rfl
 | .fn f first cap=>by simp only[LA.ren,LA.av,LAs.av_ren (x:=first),LAs.av_ren (x:=cap)]
theorem LAs.av_ren {τ:List (Nat × Nat)} {ℓ:Nat→Nat}:∀ {x:List LA},LAs.av ℓ (LAs.ren τ x)=LAs.av (fun t=>ℓ (rn τ t)) x
 | []=>rfl
 | y :: l=>by simp only[LAs.ren,LAs.av,LA.av_ren (x:=y),LAs.av_ren (x:=l)]
end
def sg:List (Nat × Option Nat)→Nat→Option Nat
 | [],_=>none
 | (a,b) :: l,j=>if a=j then b else sg l j
def MP (i:Nat):List (Nat × Option Nat)→Bool
 | []=>true
 | (_,some k) :: l=>(k != i)&&MP i l
 | (_,none) :: l=>MP i l
def FN:List (Nat × Option Nat)→Bool
 | []=>true
 | (a,some i) :: l=>(isV a == isV i&&isB a == isB i)&&(MP i l&&FN l)
 | (_,none) :: l=>FN l
def vwC (σ:List (Nat × Option Nat)) (τ:List (Nat × Nat)):CV→CV→Prop
 | .v a,.v b=>a=b
 | .own i s es,.own j s' es'=>sg σ j=some i∧s=s'∧es=es'
 | .v a,.own j _ es=>sg σ j=none∧a=.slice .full es∧(isV j=true→es=[]∧isB j=false)
 | .fn f first cap,.fn f' first' cap'=>f=f'∧first=LAs.ren τ first'∧cap=LAs.ren τ cap'
 | .p t,.p t'=>t=rn τ t'
 | .m t,.m t'=>t=rn τ t'
 | .mp es,.mp es'=>es=es'
 | .mp _,.dead=>False
 | _,.dead=>True
 | _,_=>False
def Oc (σ:List (Nat × Option Nat)) (τ:List (Nat × Nat)):List CV→List CV→Prop
 | [],[]=>True
 | c :: cs,d :: ds=>vwC σ τ c d∧Oc σ τ cs ds
 | _,_=>False
def vwN (σ:List (Nat × Option Nat)) (τ:List (Nat × Nat)) (N:List (Nat × List CV)):List (Nat × List CV)→Prop
 | []=>True
 | (t,ds) :: l=>(match AI N (rn τ t) with
  | some cs=>Oc σ τ cs ds
  | none=>False)∧vwN σ τ N l
def Pp (b:Nat) (τ:List (Nat × Nat)):List (Nat × List CV)→Bool
 | []=>true
 | (t,_) :: l=>(rn τ t != b)&&Pp b τ l
def JZ (τ:List (Nat × Nat)):List (Nat × List CV)→Bool
 | []=>true
 | (t,_) :: l=>Pp (rn τ t) τ l&&JZ τ l
def Du (N:List (Nat × List CV)) (i s:Nat) (es:List AV):Prop:=∃ t cs,AI N t=some cs∧CV.own i s es∈cs
variable [Mu]
structure Fs (ℓ:Nat→Nat) (ρ:Nat→Own) (m:Mem) (N:List (Nat × List CV)):Prop where
 locs:∀ t cs,AI N t=some cs→∃ b,m.boxes[ℓ t]?=some b∧FH ℓ ρ cs b
 tok:∀ i s es,Du N i s es→Bt m.rows i (ρ i) s es
 apart:∀ i s es j s' es',Du N i s es→Du N j s' es'→i≠j→ρ i=.full∨ρ i≠ρ j
 inj:∀ t t' cs cs',AI N t=some cs→AI N t'=some cs'→ℓ t=ℓ t'→t=t'
structure Gf (ℓ:Nat→Nat) (ρ:Nat→Own) (m:Mem) (N:List (Nat × List CV)) (ρ':Nat→Own) (m':Mem) (N':List (Nat × List CV)):Prop where
 mode:m'.mode=Bk
 len:m.boxes.length≤m'.boxes.length∧m.rows.length≤m'.rows.length
 frame:∀ l b,m.boxes[l]?=some b→(∀ t cs,AI N t=some cs→t<DQ→ℓ t≠l)→m'.boxes[l]?=some b
 rframe:∀ id x,m.rows[id]?=some x→(∀ i s es,Du N i s es→ρ i≠.row id)→m'.rows[id]?=some x
 rlow:∀ i s es,Du N' i s es→∀ id,ρ' i=.row id→m.rows.length≤id∨∃ i0 s0 es0,Du N i0 s0 es0∧ρ i0=.row id
def FnB (P:Program) (f:FuncId) (N:List (Nat × List CV)) (args:List LA) (r:AV) (N':List (Nat × List CV)):Prop :=
 ∀ (m:Mem) (ℓ:Nat→Nat) (ρ:Nat→Own),m.mode=Bk→Fs ℓ ρ m N→∃ m' ρ',EB P f (LAs.av ℓ args) m r m'∧Fs ℓ ρ' m' N'∧Gf ℓ ρ m N ρ' m' N'
def FnI (P:Program) (f:FuncId) (args:List AV) (xs:List (List AV)):Prop :=
 ∀ (m:Mem),∃ fi first cap m' fr,EB P f args m (.func fi first cap) m'∧Ext m m'∧RE fr m'∧NL P fi first cap (RE fr) xs∧∀ q∈fr,m.boxes.length≤q.1
def Do:List (Nat × Option Nat)→List Nat
 | []=>[]
 | (_,some i) :: l=>i :: Do l
 | (_,none) :: l=>Do l
def JW:List CV→List Nat
 | []=>[]
 | .own i _ _ :: l=>i :: JW l
 | _ :: l=>JW l
def GL:List (Nat × List CV)→List Nat
 | []=>[]
 | (_,cs) :: l=>JW cs++GL l
def killAll (L:AM):List Nat→AM
 | []=>L
 | i :: l=>EZ i i (killAll L l)
def CV.ren (τ:List (Nat × Nat)):CV→CV
 | .fn f first cap=>.fn f (LAs.ren τ first) (LAs.ren τ cap)
 | .p t=>.p (rn τ t)
 | .m t=>.m (rn τ t)
 | c=>c
def EO (τ:List (Nat × Nat)) (L:AM):List (Nat × List CV)→AM
 | []=>L
 | (t,cs) :: l=>Dq (EO τ L l) (rn τ t) (cs.map (CV.ren τ))
def Qy (τ:List (Nat × Nat)):List (Nat × List CV)→Bool
 | []=>true
 | (t,_) :: l=>(decide (DQ≤t) || decide (rn τ t<DQ))&&Qy τ l
def OY:List (Nat × List CV)→Bool
 | []=>true
 | (t,_) :: l=>decide (DQ≤t)&&OY l
def CJ:List (Nat × List CV)→List (Nat × List CV)→Bool
 | [],[]=>true
 | (t,_) :: l,(t',_) :: l'=>(t == t')&&CJ l l'
 | _,_=>false
def Ma (τ:List (Nat × Nat)) (pend:List Nat):List (Nat × List CV)→Bool
 | []=>true
 | (t,_) :: l=>(decide (DQ≤t) || !pend.contains (rn τ t))&&Ma τ pend l
def LV.la:LV→Option LA
 | .v a=>some (.a a.strip)
 | .own i _ es=>if isV i=true then none else some (.a (.slice .foreign es))
 | .ag cs=>(cs.mapM CV.rd).map fun l=>.a (AV.agg l).strip
 | .lref t 0=>some (.p t)
 | .mref t=>some (.m t)
 | .fn f first cap=>some (.fn f first cap)
 | _=>none
def AG9 (L:AM) (l:List Operand):Option (List LA):=(levalsA L l).bind (·.mapM LV.la)
def LV.fun_:LV→Option (FuncId × List LA × List LA)
 | .v (.func f first cap)=>some (f,first.map .a,cap.map .a)
 | .fn f first cap=>some (f,first,cap)
 | _=>none
def LV.toks:LV→List Nat
 | .own i _ _=>[i]
 | .ag cs=>JW cs
 | _=>[]
def CV.resOk:CV→Bool
 | .fn _ _ _=>false
 | .p _=>false
 | .m _=>false
 | _=>true
def LV.resOk:LV→Bool
 | .v _=>true
 | .own _ _ _=>true
 | .ag cs=>cs.all CV.resOk
 | _=>false
structure QC (ℓ:Nat→Nat) (ρ:Nat→Own) (m:Mem) (N:List (Nat × List CV)) (m':Mem):Prop where
 mode:m'.mode=Bk
 len:m.boxes.length≤m'.boxes.length∧m.rows.length≤m'.rows.length
 frame:∀ l b,m.boxes[l]?=some b→(∀ t cs,AI N t=some cs→t<DQ→ℓ t≠l)→m'.boxes[l]?=some b
 rframe:∀ id x,m.rows[id]?=some x→(∀ i s es,Du N i s es→ρ i≠.row id)→m'.rows[id]?=some x
def JQ (N':List (Nat × List CV)) (res:LV) (i s:Nat) (es:List AV):Prop:=Du N' i s es∨res.has i s es
def FnR (P:Program) (f:FuncId) (N:List (Nat × List CV)) (args:List LA) (res:LV) (N':List (Nat × List CV)):Prop :=
 ∀ (m:Mem) (ℓ:Nat→Nat) (ρ:Nat→Own),m.mode=Bk→Fs ℓ ρ m N→∃ m' ρ' a,EB P f (LAs.av ℓ args) m a m'∧BK P [] ℓ ρ' res a∧(∀ t cs,AI N' t=some cs→∃ b,m'.boxes[ℓ t]?=some b∧FH ℓ ρ' cs b) ∧
  (∀ i s es,JQ N' res i s es→Bt m'.rows i (ρ' i) s es)∧(∀ i s es j s' es',JQ N' res i s es→JQ N' res j s' es'→i≠j→ρ' i=.full∨ρ' i≠ρ' j)∧QC ℓ ρ m N m' ∧
  ∀ i s es,JQ N' res i s es→∀ id,ρ' i=.row id→m.rows.length≤id∨∃ i0 s0 es0,Du N i0 s0 es0∧ρ i0=.row id
def FnN (P:Program) (f:FuncId) (args:List LA) (res:LV) (Nn:List (Nat × List CV)):Prop :=
 ∀ (m:Mem) (ℓ0:Nat→Nat),m.mode=Bk→∃ (m':Mem) (ℓ:Nat→Nat) (a:AV),EB P f (LAs.av ℓ0 args) m a m'∧Ext m m'∧BK P [] ℓ (fun _=>.full) res a ∧
  (∀ t cs,AI Nn t=some cs→m.boxes.length≤ℓ t∧∃ b,m'.boxes[ℓ t]?=some b∧FH ℓ (fun _=>.full) cs b)∧∀ t t' cs cs',AI Nn t=some cs→AI Nn t'=some cs'→ℓ t=ℓ t'→t=t'
def Ll (D:List Nat):CV→Bool
 | .v _=>true
 | .p t=>D.contains t
 | .m t=>D.contains t
 | .mp _=>true
 | _=>false
def bindN (τ:List (Nat × Nat)):List (Nat × List CV)→AM→AM
 | [],L=>L
 | (n,cs) :: l,L=>bindN τ l (Dq L (rn τ n) (cs.map (CV.ren τ)))
def Hq (τ:List (Nat × Nat)):List Nat→List (Nat × List CV)→AM→Bool
 | _,[],_=>true
 | D,(n,cs) :: l,L=>(FO (rn τ n) L&&(decide (rn τ n<DQ)&&(CVs.free (rn τ n) (cs.map (CV.ren τ))&&(cs.all (Ll D)&&!D.contains n))))&&Hq τ (n :: D) l (Dq L (rn τ n) (cs.map (CV.ren τ)))
def MA (n:Nat):List (Nat × List CV)→Bool
 | []=>false
 | (t,_) :: l=>(t == n) || MA n l
def Sg (Nn:List (Nat × List CV)) (τ:List (Nat × Nat)):LV→Option LV
 | .lref t off=>if MA t Nn=true then some (.lref (rn τ t) off) else none
 | .mref t=>if MA t Nn=true then some (.mref (rn τ t)) else none
 | .v x=>some (.v x)
 | _=>none
inductive Nv (P:Program) (f:FuncId) (args:List LA) (pos:Fu) (L:AM) (K:LV→AM→List Nat→Prop):Prop
 | plain (as_:List AV) (r:AV) (ha:args.mapM LA.val=some as_) (h:Fn P f as_ r) (hk:K (.v r) L [])
 | vars (σ:List (Nat × Option Nat)) (τ:List (Nat × Nat)) (N N':List (Nat × List CV)) (args':List LA) (r:AV) (h:FnB P f N args' r N') (ha:args=LAs.ren τ args') (hσ:FN σ=true) (hτ:JZ τ N=true) (hro:Qy τ N=true) (hN:CJ N N'=true) (hv:vwN σ τ L.N N)
   (he:pos.early=true→OY N=true∧GL N=[]) (hp:Ma τ pos.pend N=true) (hk:K (.v r) (EO τ (killAll L (Do σ++GL N')) N') [])
 | res (σ:List (Nat × Option Nat)) (τ:List (Nat × Nat)) (N N':List (Nat × List CV)) (args':List LA) (res:LV) (h:FnR P f N args' res N') (ha:args=LAs.ren τ args') (hσ:FN σ=true) (hτ:JZ τ N=true) (hro:Qy τ N=true) (hN:CJ N N'=true) (hv:vwN σ τ L.N N) (hres:res.resOk=true)
   (he:pos.early=true→OY N=true∧GL N=[]) (hp:Ma τ pos.pend N=true) (hk:K res (EO τ (killAll L (Do σ++(GL N'++res.toks))) N') [])
 | iter (as_:List AV) (xs:List (List AV)) (ha:args.mapM LA.val=some as_) (h:FnI P f as_ xs) (hk:K (.iter xs) L [])
 | new (τ:List (Nat × Nat)) (Nn:List (Nat × List CV)) (res v:LV) (h:FnN P f args res Nn) (hb:Hq τ [] Nn L=true) (hr:Sg Nn τ res=some v) (hk:K v (bindN τ Nn L) [])
section
variable {P:Program} {fr:Fro} {ℓ:Nat→Nat} {ρ:Nat→Own} {c:FM} {L:AM} {env:List AV} {m:Mem} {σ:List (Nat × Option Nat)} {τ:List (Nat × Nat)}
theorem SV {i:Nat}:∀ {σ:List (Nat × Option Nat)},MP i σ=true→∀ j,sg σ j≠some i:=by
 intro σ
 induction σ with
 | nil=>intro _ j h;cases h
 | cons x l ih =>
  obtain⟨a,b⟩:=x
  intro h j hj
  simp only[sg] at hj
  split at hj
  ·subst hj;simp[MP] at h
  ·cases b with
   | none=>exact ih h j hj
   | some k=>simp only[MP,Bool.and_eq_true] at h;exact ih h.2 j hj
theorem Mf:∀ {σ:List (Nat × Option Nat)},FN σ=true→∀ j k i,sg σ j=some i→sg σ k=some i→j=k:=by
 intro σ
 induction σ with
 | nil=>intro _ j k i h;cases h
 | cons x l ih =>
  obtain⟨a,b⟩:=x
  intro h j k i hj hk
  simp only[sg] at hj hk
  cases b with
  | none =>
   split at hj
   ·cases hj
   ·split at hk
    ·cases hk
    ·exact ih h j k i hj hk
  | some c =>
   simp only[FN,Bool.and_eq_true] at h
   split at hj
   ·injection hj with hj;subst hj
    split at hk
    ·rename_i e1 e2;rw[← e1,← e2]
    ·exact absurd hk (SV h.2.1 k)
   ·split at hk
    ·injection hk with hk;subst hk;exact absurd hj (SV h.2.1 j)
    ·exact ih h.2.2 j k i hj hk
theorem HV:∀ {σ:List (Nat × Option Nat)},FN σ=true→∀ j i,sg σ j=some i→isV i=isV j∧isB i=isB j:=by
 intro σ
 induction σ with
 | nil=>intro _ j i h;cases h
 | cons x l ih =>
  obtain⟨a,b⟩:=x
  intro h j i hj
  simp only[sg] at hj
  cases b with
  | none =>
   simp only[FN] at h
   split at hj
   ·cases hj
   ·exact ih h j i hj
  | some c =>
   simp only[FN,Bool.and_eq_true,beq_iff_eq] at h
   split at hj
   ·rename_i e;injection hj with hj;subst e hj;exact⟨h.1.1.symm,h.1.2.symm⟩
   ·exact ih h.2.2 j i hj
theorem Bt.kind {R:List (Option (Nat × List AV))} {i j s:Nat} {o:Own} {es:List AV} (e:isV i=isV j∧isB i=isB j) (h:Bt R i o s es):Bt R j o s es:=by
 unfold Bt at h ⊢
 rw[← e.1];exact h
theorem Lh {i j s:Nat} {o:Own} {es:List AV} (e:isV i=isV j∧isB i=isB j):BZ i s o es=BZ j s o es:=by
 unfold BZ;rw[e.1,e.2]
theorem Ol {j s:Nat} {es:List AV} (h:isV j=true→isB j=false):BZ j s .full es=.slice .full es:=by
 unfold BZ;split
 ·rename_i hv;simp[h hv]
 ·rfl
def vρ (σ:List (Nat × Option Nat)) (ρ:Nat→Own) (j:Nat):Own :=
 match sg σ j with
 | some i=>ρ i
 | none=>.full
theorem Yd:∀ {cs ds:List CV},Oc σ τ cs ds→cs.length=ds.length∧∀ (j:Nat) (c d:CV),cs[j]?=some c→ds[j]?=some d→vwC σ τ c d:=by
 intro cs
 induction cs with
 | nil=>intro ds h;cases ds with
  | nil=>exact⟨rfl,fun j c d h=>by simp at h⟩
  | cons d ds=>exact h.elim
 | cons c cs ih =>
  intro ds h
  cases ds with
  | nil=>exact h.elim
  | cons d ds =>
   obtain⟨h1,h2⟩:=h
   obtain⟨g1,g2⟩:=ih h2
   refine⟨by simp[g1],fun j x y hx hy=>?_⟩
   cases j with
   | zero=>simp at hx hy;subst hx hy;exact h1
   | succ j=>exact g2 j x y (by simpa using hx) (by simpa using hy)
theorem AIX {x d:CV} {a:AV} (hσ:FN σ=true) (h:vwC σ τ x d) (hr:EF ℓ ρ x a):EF (fun t=>ℓ (rn τ t)) (vρ σ ρ) d a:=by
  cases d with
  | dead=>trivial
  | v b =>
           cases x <;> simp only[vwC] at h
           subst h;exact hr
  | own j s es =>
    cases x with
    | v x=>simp only[vwC] at h;simp only[EF] at hr ⊢;rw[hr,h.2.1];simp only[vρ,h.1];rw[Ol (fun hv=>(h.2.2 hv).2)]
    | own i s' es'=>simp only[vwC] at h;obtain⟨h1,rfl,rfl⟩:=h;simp only[EF] at hr ⊢;rw[hr,Lh (HV hσ j i h1)];simp[vρ,h1]
    | _=>simp only[vwC] at h
  | fn f first cap =>
    cases x <;> simp only[vwC] at h
    obtain⟨rfl,rfl,rfl⟩:=h
    simp only[EF] at hr ⊢
    rw[hr,LAs.av_ren,LAs.av_ren]
  | p t =>
           cases x <;> simp only[vwC] at h
           subst h;exact hr
  | m t =>
           cases x <;> simp only[vwC] at h
           subst h;exact hr
  | mp es =>
             cases x <;> simp only[vwC] at h
             exact hr
theorem Zf {cs ds:List CV} {as_:List AV} (hσ:FN σ=true) (h:Oc σ τ cs ds) (hr:Cs ℓ ρ cs as_):Cs (fun t=>ℓ (rn τ t)) (vρ σ ρ) ds as_:=by
 obtain⟨h1,h2⟩:=Yd h
 refine⟨by rw[hr.1,h1],fun j d a hd ha=>?_⟩
 have hj:j<cs.length:=by rw[h1];exact(List.getElem?_eq_some_iff.1 hd).1
 exact AIX hσ (h2 j _ d (List.getElem?_eq_getElem hj) hd) (hr.2 j _ a (List.getElem?_eq_getElem hj) ha)
theorem Yc {cs ds:List CV} {j s:Nat} {es:List AV} (h:Oc σ τ cs ds) (hm:CV.own j s es∈ds):(sg σ j=none∧(isV j=true→es=[]))∨∃ i,sg σ j=some i∧CV.own i s es∈cs:=by
 obtain⟨h1,h2⟩:=Yd h
 obtain⟨k,hk,he⟩:=List.getElem_of_mem hm
 have hk':k<cs.length:=by omega
 have:=h2 k _ _ (List.getElem?_eq_getElem hk') (by rw[List.getElem?_eq_getElem hk,he])
 cases hc:cs[k] with
 | v x=>rw[hc] at this;exact .inl ⟨this.1,fun hv=>(this.2.2 hv).1⟩
 | own i s' es'=>rw[hc] at this;obtain⟨g1,rfl,rfl⟩:=this;exact .inr ⟨i,g1,by rw[← hc];exact List.getElem_mem hk'⟩
 | _=>rw[hc] at this;exact this.elim
theorem Hs:∀ {N N0:List (Nat × List CV)},vwN σ τ N0 N→∀ t ds,AI N t=some ds→∃ cs,AI N0 (rn τ t)=some cs∧Oc σ τ cs ds:=by
 intro N
 induction N with
 | nil=>intro N0 _ t ds h;cases h
 | cons x l ih =>
  obtain⟨t0,d0⟩:=x
  intro N0 h t ds hd
  simp only[AI] at hd
  split at hd
  ·rename_i e;subst e
   injection hd with hd;subst hd
   have:=h.1
   split at this
   ·exact⟨_,by assumption,this⟩
   ·exact this.elim
  ·exact ih h.2 t ds hd
theorem SX {b:Nat}:∀ {N:List (Nat × List CV)},Pp b τ N=true→∀ t cs,AI N t=some cs→rn τ t≠b:=by
 intro N
 induction N with
 | nil=>intro _ t cs h;cases h
 | cons x l ih =>
  obtain⟨t0,d0⟩:=x
  intro h t cs hc
  simp only[Pp,Bool.and_eq_true,bne_iff_ne,ne_eq] at h
  simp only[AI] at hc
  split at hc
  ·rename_i e;subst e;exact h.1
  ·exact ih h.2 t cs hc
theorem ACp:∀ {N:List (Nat × List CV)},JZ τ N=true→∀ t t' cs cs',AI N t=some cs→AI N t'=some cs'→rn τ t=rn τ t'→t=t':=by
 intro N
 induction N with
 | nil=>intro _ t t' cs cs' h;cases h
 | cons x l ih =>
  obtain⟨t0,d0⟩:=x
  intro h t t' cs cs' hc hc' he
  simp only[JZ,Bool.and_eq_true] at h
  simp only[AI] at hc hc'
  split at hc
  ·rename_i e;subst e
   split at hc'
   ·assumption
   ·exact absurd he.symm (SX h.1 t' cs' hc')
  ·split at hc'
   ·rename_i e;subst e;exact absurd he (SX h.1 t cs hc)
   ·exact ih h.2 t t' cs cs' hc hc' he
theorem MC {N N0:List (Nat × List CV)} (h:vwN σ τ N0 N) {j s:Nat} {es:List AV} (ht:Du N j s es):(sg σ j=none∧(isV j=true→es=[]))∨∃ i,sg σ j=some i∧Du N0 i s es:=by
 obtain⟨t,ds,h1,h2⟩:=ht
 obtain⟨cs,h3,h4⟩:=Hs h t ds h1
 exact(Yc h4 h2).imp id fun ⟨i,g1,g2⟩=>⟨i,g1,_,cs,h3,g2⟩
theorem Ih {N N0:List (Nat × List CV)} (h:vwN σ τ N0 N) {j s:Nat} {es:List AV} (ht:Du N j s es):sg σ j=none∨∃ i,sg σ j=some i∧Du N0 i s es:=(MC h ht).imp (·.1) id
theorem Bt.full {R:List (Option (Nat × List AV))} {i s:Nat} {es:List AV} (h:isV i=true→es=[]):Bt R i .full s es:=by
 unfold Bt
 split
 ·rename_i hv;exact .inl ⟨rfl,h hv⟩
 ·exact .inl rfl
theorem AIW {es:List (Value × AV)} {ds:List CV} (h:Oc σ τ [.mp es] ds):ds=[.mp es]:=by
  cases ds with
  | nil=>exact h.elim
  | cons d ds =>
    obtain⟨h1,h2⟩:=h
    cases ds with
    | cons d' ds=>exact h2.elim
    | nil =>
             cases d <;> simp only[vwC] at h1
             rw[h1]
theorem Fs.view {N N0:List (Nat × List CV)} (h:Fs ℓ ρ m N0) (hσ:FN σ=true) (hτ:JZ τ N=true) (hv:vwN σ τ N0 N):Fs (fun t=>ℓ (rn τ t)) (vρ σ ρ) m N:=by
 refine⟨fun t ds h1=>?_,fun j s es hj=>?_,fun j s es k s' es' h1 h2 hne=>?_,fun t t' ds ds' h1 h2 h3=>?_⟩
 ·obtain⟨cs,h3,h4⟩:=Hs hv t ds h1
  obtain⟨b,h5,h6⟩:=h.locs _ cs h3
  exact⟨b,h5,h6.imp (fun as_ hc=>Zf hσ h4 hc) (fun es e=>AIW (by rw[← e];exact h4))⟩
 ·rcases MC hv hj with⟨h1,h0⟩|⟨i,h1,h2⟩
  ·simp only[vρ,h1];exact .full h0
  ·simp only[vρ,h1];exact(h.tok i s es h2).kind (HV hσ j i h1)
 ·rcases Ih hv h1 with g1 | ⟨i,g1,g2⟩
  ·left;simp only[vρ,g1]
  ·rcases Ih hv h2 with k1 | ⟨i',k1,k2⟩
   ·simp only[vρ,g1,k1]
    cases hj:ρ i with
    | full=>exact .inl rfl
    | _=>exact .inr (by simp)
   ·simp only[vρ,g1,k1]
    exact h.apart i s es i' s' es' g2 k2 (fun e=>hne (Mf hσ j k i g1 (by rw[k1,e])))
 ·obtain⟨c1,g1,_⟩:=Hs hv t ds h1
  obtain⟨c2,g2,_⟩:=Hs hv t' ds' h2
  exact ACp hτ t t' _ _ h1 h2 (h.inj _ _ _ _ g1 g2 h3)
theorem Du.vis {i s:Nat} {es:List AV} (h:Du L.N i s es):Vis L i s es:=.inr h
theorem BP.held (h:BP P fr ℓ ρ c L env m):Fs ℓ ρ m L.N:=⟨h.locs,fun i s es hi=>h.tok i s es hi.vis,fun i s es j s' es' h1 h2=>h.apart i s es j s' es' h1.vis h2.vis,h.inj⟩
theorem HC {j s:Nat} {es:List AV}:∀ {ks:List Nat},Vis (killAll L ks) j s es→Vis L j s es∧j ∉ ks:=by
 intro ks
 induction ks with
 | nil=>intro h;exact⟨h,by simp⟩
 | cons i l ih =>
  intro h
  obtain⟨h1,h2,_⟩:=Te h
  obtain⟨h3,h4⟩:=ih h1
  exact⟨h3,by simp[h2,h4]⟩
def LV.killAll (v:LV):List Nat→LV
 | []=>v
 | i :: l=>(v.killAll l).kill i i
def CV.killAll (v:CV):List Nat→CV
 | []=>v
 | i :: l=>(v.killAll l).kill i i
theorem VI {es:List (Value × AV)}:∀ {ks:List Nat},(CV.mp es).killAll ks=.mp es:=by
 intro ks
 induction ks with
 | nil=>rfl
 | cons i l ih=>simp only[CV.killAll,ih,CV.kill]
theorem Wr {t:Nat}:∀ {ks:List Nat},AI (killAll L ks).S t=(AI L.S t).map (·.killAll ks):=by
 intro ks
 induction ks with
 | nil=>simp only[G.killAll,LV.killAll];cases AI L.S t <;> rfl
 | cons i l ih=>simp only[G.killAll,EZ,Pu,ih,Option.map_map];rfl
theorem HY {t:Nat}:∀ {ks:List Nat},AI (killAll L ks).N t=(AI L.N t).map (·.map (·.killAll ks)):=by
 intro ks
 induction ks with
 | nil=>simp only[G.killAll,CV.killAll];cases AI L.N t <;> simp
 | cons i l ih=>simp only[G.killAll,EZ,HU,ih,Option.map_map];congr 1;funext x;simp[CV.killAll,Function.comp_def]
theorem QS {ρ':Nat→Own} {u:LV} {a:AV} (h:BK P fr ℓ ρ u a):∀ {ks:List Nat},(∀ j,j ∉ ks→ρ' j=ρ j)→BK P fr ℓ ρ' (u.killAll ks) a:=by
  intro ks
  induction ks generalizing ρ' with
  | nil =>
           intro hρ;have:ρ'=ρ:=funext fun j=>hρ j (by simp)
           subst this;exact h
  | cons i l ih =>
    intro hρ
    have h1:=ih (ρ':=fun j=>if j∈l then ρ' j else ρ j) (fun j hj=>if_neg hj)
    refine WY (ρ:=fun j=>if j∈l then ρ' j else ρ j) (fun j h2 _=>?_) h1
    by_cases hj:j∈l
    · simp only[if_pos hj]
    · simp only[if_neg hj];exact hρ j (by simp[h2,hj])
theorem PE {ρ':Nat→Own} {cs:List CV} {as_:List AV} (h:Cs ℓ ρ cs as_):∀ {ks:List Nat},(∀ j,j ∉ ks→ρ' j=ρ j)→Cs ℓ ρ' (cs.map (·.killAll ks)) as_:=by
  intro ks
  induction ks generalizing ρ' with
  | nil =>
           intro hρ;have:ρ'=ρ:=funext fun j=>hρ j (by simp)
           subst this;simp only[CV.killAll,List.map_id'];exact h
  | cons i l ih =>
    intro hρ
    have h1:=ih (ρ':=fun j=>if j∈l then ρ' j else ρ j) (fun j hj=>if_neg hj)
    have h2:=OZ (ρ:=fun j=>if j∈l then ρ' j else ρ j) (ρ':=ρ') (i:=i) (d:=i) (fun j h2 _=>by
      by_cases hj:j∈l
      · simp only[if_pos hj]
      · simp only[if_neg hj];exact hρ j (by simp[h2,hj])) h1
    rw[List.map_map] at h2
    exact h2
theorem Qe {v:LV}:∀ {ks:List Nat},v.killAll ks≠.dead→v≠.dead:=by
 intro ks
 induction ks with
 | nil=>exact fun h=>h
 | cons i l ih=>intro h;exact ih fun e=>h (by simp only[LV.killAll,e];rfl)
theorem Ur:∀ {σ:List (Nat × Option Nat)} {j i:Nat},sg σ j=some i→i∈Do σ:=by
 intro σ
 induction σ with
 | nil=>intro j i h;cases h
 | cons x l ih =>
  obtain⟨a,b⟩:=x
  intro j i h
  simp only[sg] at h
  split at h
  ·subst h;simp[Do]
  ·cases b with
   | none=>exact ih h
   | some k=>exact List.mem_cons_of_mem _ (ih h)
theorem NB:∀ {cs:List CV} {i s:Nat} {es:List AV},CV.own i s es∈cs→i∈JW cs:=by
 intro cs
 induction cs with
 | nil=>intro i s es h;cases h
 | cons x l ih =>
  intro i s es h
  rcases List.mem_cons.1 h with rfl | h
  ·simp[JW]
  ·have:=ih h
   cases x <;> simp only[JW] <;> first | exact this | exact List.mem_cons_of_mem _ this
theorem LH:∀ {N:List (Nat × List CV)} {t:Nat} {cs:List CV},AI N t=some cs→∀ {i s:Nat} {es:List AV},CV.own i s es∈cs→i∈GL N:=by
 intro N
 induction N with
 | nil=>intro t cs h;cases h
 | cons x l ih =>
  obtain⟨t0,c0⟩:=x
  intro t cs h i s es hi
  simp only[AI] at h
  simp only[GL,List.mem_append]
  split at h
  ·injection h with h;subst h;exact .inl (NB hi)
  ·exact .inr (ih h hi)
theorem Ye:∀ {N':List (Nat × List CV)},(EO τ L N').S=L.S:=by
 intro N'
 induction N' with
 | nil=>rfl
 | cons x l ih=>obtain⟨t,cs⟩:=x;simp only[EO,Dq,ih]
theorem Zz:∀ {N':List (Nat × List CV)} {t:Nat} {ds:List CV},AI (EO τ L N').N t=some ds→(∃ n cs,(n,cs)∈N'∧rn τ n=t∧ds=cs.map (CV.ren τ)∧AI N' n=some cs)∨((∀ n cs,(n,cs)∈N'→rn τ n≠t)∧AI L.N t=some ds):=by
 intro N'
 induction N' with
 | nil=>intro t ds h;exact .inr ⟨fun n cs h=>(by cases h),h⟩
 | cons x l ih =>
  obtain⟨n0,c0⟩:=x
  intro t ds h
  simp only[EO,Dq,AI] at h
  split at h
  ·rename_i e
   injection h with h
   exact .inl ⟨n0,c0,List.mem_cons_self,e,h.symm,by simp[AI]⟩
  ·rename_i e
   rcases ih h with⟨n,cs,h1,h2,h3,h4⟩|⟨h1,h2⟩
   ·by_cases hn:n0=n
    ·subst hn;exact absurd h2 e
    ·exact .inl ⟨n,cs,List.mem_cons_of_mem _ h1,h2,h3,by simp only[AI];rw[if_neg hn];exact h4⟩
   ·refine .inr ⟨fun n cs hn=>?_,h2⟩
    rcases List.mem_cons.1 hn with hn | hn
    ·injection hn with e1 e2;subst e1;exact e
    ·exact h1 n cs hn
theorem AAO {α:Type}:∀ {N:List (Nat × α)} {t:Nat} {x:α},AI N t=some x→(t,x)∈N:=by
 intro N
 induction N with
 | nil=>intro t x h;cases h
 | cons y l ih =>
  obtain⟨t0,c0⟩:=y
  intro t x h
  simp only[AI] at h
  split at h
  ·rename_i e;subst e;injection h with h;subst h;exact List.mem_cons_self
  ·exact List.mem_cons_of_mem _ (ih h)
theorem AA2 {cs:List CV} {i s:Nat} {es:List AV} (h:CV.own i s es∈cs.map (CV.ren τ)):CV.own i s es∈cs:=by
 obtain⟨x,h1,h2⟩:=List.mem_map.1 h
 cases x <;> simp only[CV.ren] at h2 <;> first | (rw[← h2];exact h1) | cases h2
theorem ADy {cs:List CV} {as_:List AV} (h:Cs (fun t=>ℓ (rn τ t)) ρ cs as_):Cs ℓ ρ (cs.map (CV.ren τ)) as_:=by
 refine⟨by simp[h.1],fun j x a hj ha=>?_⟩
 rw[List.getElem?_map] at hj
 cases hc:cs[j]? with
 | none=>rw[hc] at hj;cases hj
 | some c0 =>
  rw[hc] at hj;injection hj with hj;subst hj
  have:=h.2 j c0 a hc ha
  cases c0 with
  | fn f first cap=>simp only[CV.ren,EF] at this ⊢;rw[LAs.av_ren,LAs.av_ren];exact this
  | _=>exact this
theorem Fz:∀ {N N':List (Nat × List CV)},CJ N N'=true→∀ t cs',AI N' t=some cs'→∃ cs,AI N t=some cs:=by
 intro N
 induction N with
 | nil=>intro N' h t cs' h';cases N' with
  | nil=>cases h'
  | cons x l=>cases h
 | cons x l ih =>
  obtain⟨t0,c0⟩:=x
  intro N' h t cs' h'
  cases N' with
  | nil=>cases h
  | cons y l' =>
   obtain⟨t1,c1⟩:=y
   simp only[CJ,Bool.and_eq_true,beq_iff_eq] at h
   obtain⟨rfl,h⟩:=h
   simp only[AI] at h' ⊢
   split
   ·exact⟨_,rfl⟩
   ·rename_i e;rw[if_neg e] at h';exact ih h t cs' h'
theorem Vt:∀ {N N':List (Nat × List CV)},CJ N N'=true→∀ t cs,AI N t=some cs→∃ cs',AI N' t=some cs':=by
 intro N
 induction N with
 | nil=>intro N' h t cs' h';cases h'
 | cons x l ih =>
  obtain⟨t0,c0⟩:=x
  intro N' h t cs' h'
  cases N' with
  | nil=>cases h
  | cons y l' =>
   obtain⟨t1,c1⟩:=y
   simp only[CJ,Bool.and_eq_true,beq_iff_eq] at h
   obtain⟨rfl,h⟩:=h
   simp only[AI] at h' ⊢
   split
   ·exact⟨_,rfl⟩
   ·rename_i e;rw[if_neg e] at h';exact ih h t cs' h'
theorem Ws:∀ {N:List (Nat × List CV)},Qy τ N=true→∀ t cs,AI N t=some cs→t<DQ→rn τ t<DQ:=by
 intro N
 induction N with
 | nil=>intro _ t cs h;cases h
 | cons x l ih =>
  obtain⟨t0,c0⟩:=x
  intro h t cs hc hlt
  simp only[Qy,Bool.and_eq_true,Bool.or_eq_true,decide_eq_true_eq] at h
  simp only[AI] at hc
  split at hc
  ·rename_i e;subst e;omega
  ·exact ih h.2 t cs hc hlt
theorem Tr:∀ {N:List (Nat × List CV)},OY N=true→∀ t cs,AI N t=some cs→DQ≤t:=by
 intro N
 induction N with
 | nil=>intro _ t cs h;cases h
 | cons x l ih =>
  obtain⟨t0,c0⟩:=x
  intro h t cs hc
  simp only[OY,Bool.and_eq_true,decide_eq_true_eq] at h
  simp only[AI] at hc
  split at hc
  ·rename_i e;subst e;exact h.1
  ·exact ih h.2 t cs hc
theorem PI {pend:List Nat}:∀ {N:List (Nat × List CV)},Ma τ pend N=true→∀ t cs,AI N t=some cs→t<DQ→rn τ t ∉ pend:=by
 intro N
 induction N with
 | nil=>intro _ t cs h;cases h
 | cons x l ih =>
  obtain⟨t0,c0⟩:=x
  intro h t cs hc hlt
  simp only[Ma,Bool.and_eq_true,Bool.or_eq_true,decide_eq_true_eq,Bool.not_eq_true'] at h
  simp only[AI] at hc
  split at hc
  ·rename_i e;subst e
   rcases h.1 with h1 | h1
   ·omega
   ·intro hm;rw[List.contains_iff_mem.2 hm] at h1;cases h1
  ·exact ih h.2 t cs hc hlt
theorem Gf.to0 {N N':List (Nat × List CV)} {ρ':Nat→Own} {m':Mem} (h:Gf ℓ ρ m N ρ' m' N'):QC ℓ ρ m N m':=⟨h.mode,h.len,h.frame,h.rframe⟩
theorem BP.varsT (h:BP P fr ℓ ρ c L env m) {N N':List (Nat × List CV)} {ρ':Nat→Own} {m':Mem} {T':Nat→Nat→List AV→Prop} {ks2:List Nat} (hN:CJ N N'=true) (hτ:JZ τ N=true) (hro:Qy τ N=true) (hv:vwN σ τ L.N N)
  (hT:∀ i s es,Du N' i s es→T' i s es) (hk2:∀ i s es,T' i s es→i∈ks2) (hlocs:∀ t cs,AI N' t=some cs→∃ b,m'.boxes[ℓ (rn τ t)]?=some b∧FH (fun t=>ℓ (rn τ t)) ρ' cs b) (htok:∀ i s es,T' i s es→Bt m'.rows i (ρ' i) s es)
  (hap:∀ i s es j s' es',T' i s es→T' j s' es'→i≠j→ρ' i=.full∨ρ' i≠ρ' j) (hst:QC (fun t=>ℓ (rn τ t)) (vρ σ ρ) m N m') (hrl:∀ i s es,T' i s es→∀ id,ρ' i=.row id→m.rows.length≤id∨∃ i0 s0 es0,Du N i0 s0 es0∧vρ σ ρ i0=.row id) :
  BP P fr ℓ (fun j=>if j∈ks2 then ρ' j else ρ j) c (EO τ (killAll L (Do σ++ks2)) N') env m'∧(∀ t cs,AI L.N t=some cs→(∀ n k,AI N n=some k→n<DQ→rn τ n≠t)→m'.boxes[ℓ t]?=m.boxes[ℓ t]?) ∧
   (∀ i s es j s' es',T' i s es→Vis L j s' es'→j ∉ Do σ→ρ' i=.full∨ρ' i≠ρ j)∧(∀ i s es,T' i s es→∀ id,ρ' i=.row id→c.base.rows.length≤id∨c.R0 id)∧∀ j s es,Vis (EO τ (killAll L (Do σ++ks2)) N') j s es→(T' j s es∧j∈ks2)∨(Vis L j s es∧j ∉ Do σ∧j ∉ ks2):=by
 have hks:∀ j,j ∉ Do σ++ks2→(fun j=>if j∈ks2 then ρ' j else ρ j) j=ρ j:=fun j hj=>if_neg fun h=>hj (List.mem_append_right _ h)
 -- rows that are not the call's
 have hmine:∀ j s es,Vis L j s es→j ∉ Do σ→∀ id,ρ j=.row id→∀ x,m.rows[id]?=some x→m'.rows[id]?=some x:=by
  intro j s es hj hjs id hid x hx
  refine hst.rframe id x hx (fun i s0 es0 hi e=>?_)
  rcases Ih hv hi with h1 | ⟨i',h1,h2⟩
  ·simp only[vρ,h1] at e;cases e
  ·simp only[vρ,h1] at e
   rcases h.apart j s es i' s0 es0 hj h2.vis (fun e'=>hjs (by rw[e'];exact Ur h1)) with h3 | h3
   ·rw[h3] at hid;cases hid
   ·exact h3 (by rw[hid,e])
 have hbox:∀ t cs,AI L.N t=some cs→(∀ n k,AI N n=some k→n<DQ→rn τ n≠t)→∀ b,m.boxes[ℓ t]?=some b→m'.boxes[ℓ t]?=some b:=by
  intro t cs ht hn b hb
  refine hst.frame _ b hb (fun n k hk hlt e=>?_)
  obtain⟨c1,g1,_⟩:=Hs hv n k hk
  exact hn n k hk hlt (h.inj _ _ _ _ g1 ht e)
 have cases1:∀ {t ds},AI (EO τ (killAll L (Do σ++ks2)) N').N t=some ds→(∃ n cs,rn τ n=t∧ds=cs.map (CV.ren τ)∧AI N' n=some cs)∨((∀ n cs,AI N n=some cs→rn τ n≠t)∧∃ k,AI L.N t=some k∧ds=k.map (·.killAll (Do σ++ks2))):=by
  intro t ds hd
  rcases Zz hd with⟨n,cs,_,h2,h3,h4⟩|⟨h1,h2⟩
  ·exact .inl ⟨n,cs,h2,h3,h4⟩
  ·refine .inr ⟨fun n cs hn=>?_,?_⟩
   ·obtain⟨cs',hn'⟩:=Vt hN n cs hn
    exact h1 n cs' (AAO hn')
   ·rw[HY] at h2
    obtain⟨k,hk,e⟩:=Cr h2
    exact⟨k,hk,e.symm⟩
 have names:∀ {t ds},AI (EO τ (killAll L (Do σ++ks2)) N').N t=some ds→∃ k,AI L.N t=some k:=by
  intro t ds hd
  rcases cases1 hd with⟨n,cs,rfl,_,h3⟩|⟨_,k,hk,_⟩
  ·obtain⟨k,hk⟩:=Fz hN n cs h3
   obtain⟨c1,g1,_⟩:=Hs hv n k hk
   exact⟨c1,g1⟩
  ·exact⟨k,hk⟩
 have visc:∀ {j s es},Vis (EO τ (killAll L (Do σ++ks2)) N') j s es→(T' j s es∧j∈ks2)∨(Vis L j s es∧j ∉ Do σ∧j ∉ ks2):=by
  rintro j s es (⟨t,u,h1,h2⟩|⟨t,ds,h1,h2⟩)
  ·rw[Ye] at h1
   obtain⟨h3,h4⟩:=HC (.inl ⟨t,u,h1,h2⟩)
   exact .inr ⟨h3,fun e=>h4 (List.mem_append_left _ e),fun e=>h4 (List.mem_append_right _ e)⟩
  ·rcases Zz h1 with⟨n,cs,_,_,rfl,h4⟩|⟨_,h4⟩
   ·exact .inl ⟨hT _ _ _ ⟨n,cs,h4,AA2 h2⟩,hk2 _ _ _ (hT _ _ _ ⟨n,cs,h4,AA2 h2⟩)⟩
   ·obtain⟨h5,h6⟩:=HC (.inr ⟨t,ds,h4,h2⟩)
    exact .inr ⟨h5,fun e=>h6 (List.mem_append_left _ e),fun e=>h6 (List.mem_append_right _ e)⟩
 have hold:∀ j s es,Vis L j s es→j ∉ Do σ→Bt m'.rows j (ρ j) s es:=by
  intro j s es h1 h2
  exact(h.tok j s es h1).mono fun id h3 x h4=>hmine j s es h1 h2 id h3 x h4
 have hrows:∀ j s es,Vis L j s es→∀ id,ρ j=.row id→id<m.rows.length:=by
  intro j s es h1 id hid
  rcases (h.tok j s es h1).row with h2 | ⟨id',h2,h3⟩
  ·rw[h2] at hid;cases hid
  ·rw[h2] at hid;injection hid with hid;omega
 have cross:∀ i s es j s' es',T' i s es→Vis L j s' es'→j ∉ Do σ→ρ' i=.full∨ρ' i≠ρ j:=by
  intro i s es j s' es' h1 h2 h3
  cases hi:ρ' i with
  | full=>exact .inl rfl
  | foreign =>
   exfalso
   rcases (htok i s es h1).row with g1 | ⟨id,g1,_⟩
   ·rw[hi] at g1;cases g1
   ·rw[hi] at g1;cases g1
  | row id =>
   right
   intro e
   rcases hrl i s es h1 id hi with g1 | ⟨i0,s0,es0,g1,g2⟩
   ·have:=hrows j s' es' h2 id e.symm;omega
   ·rcases Ih hv g1 with g3 | ⟨i',g3,g4⟩
    ·simp only[vρ,g3] at g2;cases g2
    ·simp only[vρ,g3] at g2
     rcases h.apart i' s0 es0 j s' es' g4.vis h2 (fun e'=>h3 (by rw[← e'];exact Ur g3)) with g5 | g5
     ·rw[g5] at g2;cases g2
     ·exact g5 (by rw[g2,e])
 refine⟨⟨hst.mode,fun t u h1 h2=>?_,fun t ds h1=>?_,fun j s es hj=>?_,fun i s es j s' es' h1 h2 hne=>?_,fun t t' k k' h1 h2 h3=>?_,fun p hp=>?_,fun t k h1=>?_,fun j s es hj id hid=>?_,⟨Nat.le_trans h.len.1 hst.len.1,Nat.le_trans h.len.2 hst.len.2⟩,fun l b h1 h2=>?_,fun id x h1 h2=>?_,fun q hq=>?_,fun q hq t k h1=>?_⟩,fun t cs ht hn=>?_,cross,fun j s es h1 id hid=>?_,fun j s es hj=>visc hj⟩
 ·rw[Ye,Wr] at h1
  obtain⟨u0,h3,rfl⟩:=Cr h1
  obtain⟨a,h4,h5⟩:=h.slot t u0 h3 (Qe h2)
  exact⟨a,h4,QS h5 hks⟩
 ·rcases cases1 h1 with⟨n,cs,rfl,rfl,h4⟩|⟨h2,k,h3,rfl⟩
  ·obtain⟨b,h5,h6⟩:=hlocs n cs h4
   refine⟨b,h5,h6.imp (fun as_ hcs=>ADy ⟨hcs.1,fun j x a hj ha=>?_⟩) (fun es e=>by rw[e];rfl)⟩
   have:=hcs.2 j x a hj ha
   cases x with
   | own i s es=>simp only[EF] at this ⊢;rw[if_pos (hk2 _ _ _ (hT _ _ _ ⟨n,cs,h4,List.mem_of_getElem? hj⟩))];exact this
   | _=>exact this
  ·obtain⟨b,h5,h6⟩:=h.locs t k h3
   exact⟨b,hbox t k h3 (fun n k hk _=>h2 n k hk) _ h5,h6.imp (fun as_ hcs=>PE hcs hks) (fun es e=>by rw[e];simp only[List.map_cons,List.map_nil,VI])⟩
 ·rcases visc hj with⟨h1,h2⟩|⟨h1,h2,h3⟩
  ·simp only[if_pos h2];exact htok j s es h1
  ·simp only[if_neg h3];exact hold j s es h1 h2
 ·rcases visc h1 with⟨g1,g2⟩|⟨g1,g2,g3⟩
  ·rcases visc h2 with⟨k1,k2⟩|⟨k1,k2,k3⟩
   ·simp only[if_pos g2,if_pos k2];exact hap i s es j s' es' g1 k1 hne
   ·simp only[if_pos g2,if_neg k3];exact cross i s es j s' es' g1 k1 k2
  ·rcases visc h2 with⟨k1,k2⟩|⟨k1,k2,k3⟩
   ·simp only[if_neg g3,if_pos k2]
    rcases cross j s' es' i s es k1 g1 g2 with h5 | h5
    ·rw[h5]
     cases hj:ρ i with
     | full=>exact .inl rfl
     | _=>exact .inr (by simp)
    ·exact .inr fun e=>h5 e.symm
   ·simp only[if_neg g3,if_neg k3];exact h.apart i s es j s' es' g1 k1 hne
 ·obtain⟨k1,g1⟩:=names h1
  obtain⟨k2,g2⟩:=names h2
  exact h.inj t t' _ _ g1 g2 h3
 ·obtain⟨⟨k,h1⟩,h2⟩:=h.bor p hp
  refine⟨?_,h2⟩
  have:∀ (N':List (Nat × List CV)) (L:AM) k,AI L.N p.1=some k→∃ k',AI (EO τ L N').N p.1=some k':=by
   intro N'
   induction N' with
   | nil=>intro L k h;exact⟨k,h⟩
   | cons x l ih =>
    obtain⟨n0,c0⟩:=x
    intro L k h
    simp only[EO,Dq,AI]
    split
    ·exact⟨_,rfl⟩
    ·exact ih L k h
  exact this N' _ _ (by rw[HY,h1];rfl)
 ·obtain⟨k1,g1⟩:=names h1
  exact h.low t k1 g1
 ·rcases visc hj with⟨h1,h2⟩|⟨h1,h2,h3⟩
  ·simp only[if_pos h2] at hid
   rcases hrl j s es h1 id hid with g1 | ⟨i0,s0,es0,g1,g2⟩
   ·left;have:=h.len.2;omega
   ·rcases Ih hv g1 with g3 | ⟨i',g3,g4⟩
    ·simp only[vρ,g3] at g2;cases g2
    ·simp only[vρ,g3] at g2;exact h.rlow i' s0 es0 g4.vis id g2
  ·simp only[if_neg h3] at hid;exact h.rlow j s es h1 id hid
 ·refine hst.frame l b (h.frame l b h1 h2) (fun n k hk hlt e=>?_)
  obtain⟨c1,g1,_⟩:=Hs hv n k hk
  rcases h.low _ c1 g1 with h3 | ⟨p,hp,h3⟩ | h3
  ·have:=(List.getElem?_eq_some_iff.1 h1).1;omega
  ·obtain⟨⟨k0,g3⟩,g4⟩:=h.bor p hp
   have e1:=h.inj p.1 _ k0 c1 g3 g1 (g4.trans h3)
   have:=Ws hro n k hk hlt
   exact h2 p hp (by omega) (h3.trans e)
  ·have:=Ws hro n k hk hlt;omega
 ·refine hst.rframe id x (h.rframe id x h1 h2) (fun i s es hi e=>?_)
  rcases Ih hv hi with g3 | ⟨i',g3,g4⟩
  ·simp only[vρ,g3] at e;cases e
  ·simp only[vρ,g3] at e
   rcases h.rlow i' s es g4.vis id e with h6 | h6
   ·have:=(List.getElem?_eq_some_iff.1 h1).1;omega
   ·exact h2 h6
 ·refine hst.frame q.1 q.2 (h.froz.1 q hq) (fun n k hk _ e=>?_)
  obtain⟨c1,g1,_⟩:=Hs hv n k hk
  exact h.froz.2 q hq _ c1 g1 e
 ·obtain⟨k1,g1⟩:=names h1
  exact h.froz.2 q hq t k1 g1
 ·obtain⟨as_,h5,_⟩:=h.locs t cs ht
  rw[h5];exact hbox t cs ht hn _ h5
 ·rcases hrl j s es h1 id hid with g1 | ⟨i0,s0,es0,g1,g2⟩
  ·left;have:=h.len.2;omega
  ·rcases Ih hv g1 with g3 | ⟨i',g3,g4⟩
   ·simp only[vρ,g3] at g2;cases g2
   ·simp only[vρ,g3] at g2;exact h.rlow i' s0 es0 g4.vis id g2
theorem BP.vars (h:BP P fr ℓ ρ c L env m) {N N':List (Nat × List CV)} {ρ':Nat→Own} {m':Mem} (hN:CJ N N'=true) (hτ:JZ τ N=true) (hro:Qy τ N=true) (hv:vwN σ τ L.N N) (hh:Fs (fun t=>ℓ (rn τ t)) ρ' m' N') (hst:Gf (fun t=>ℓ (rn τ t)) (vρ σ ρ) m N ρ' m' N') :
  BP P fr ℓ (fun j=>if j∈GL N' then ρ' j else ρ j) c (EO τ (killAll L (Do σ++GL N')) N') env m'∧∀ t cs,AI L.N t=some cs→(∀ n k,AI N n=some k→n<DQ→rn τ n≠t)→m'.boxes[ℓ t]?=m.boxes[ℓ t]?:=by
 obtain⟨h1,h2,_⟩:=h.varsT (T':=Du N') (ks2:=GL N') hN hτ hro hv (fun _ _ _ h=>h) (fun i s es ⟨t,cs,h1,h2⟩=>LH h1 h2) hh.locs hh.tok hh.apart hst.to0 hst.rlow
 exact⟨h1,h2⟩
theorem Gf.ext {N N':List (Nat × List CV)} {ρ':Nat→Own} {m':Mem} (hm:m.mode=Bk) (h:Gf ℓ ρ m N ρ' m' N') (hr:OY N=true) (hrow:∀ (id:Nat) (x:Option (Nat × List AV)),m.rows[id]?=some x→m'.rows[id]?=some x):Ext m m':=by
 have key:∀ {α:Type} {a b:List α},a.length≤b.length→(∀ (i:Nat) (x:α),a[i]?=some x→b[i]?=some x)→∃ x,b=a++x:=by
  intro α a b hl h
  refine⟨b.drop a.length,?_⟩
  apply List.ext_getElem?
  intro i
  by_cases hi:i<a.length
  ·rw[List.getElem?_append_left hi,List.getElem?_eq_getElem hi];exact h i _ (List.getElem?_eq_getElem hi)
  ·rw[List.getElem?_append_right (by omega),List.getElem?_drop];congr 1;omega
 refine⟨key h.len.1 fun l b hb=>h.frame l b hb fun t cs ht hlt=>?_,key h.len.2 hrow,by rw[h.mode,hm]⟩
 have:=Tr hr t cs ht
 omega
theorem QC.ext {N:List (Nat × List CV)} {m':Mem} (hm:m.mode=Bk) (h:QC ℓ ρ m N m') (hr:OY N=true) (hrow:∀ (id:Nat) (x:Option (Nat × List AV)),m.rows[id]?=some x→m'.rows[id]?=some x):Ext m m':=by
 have key:∀ {α:Type} {a b:List α},a.length≤b.length→(∀ (i:Nat) (x:α),a[i]?=some x→b[i]?=some x)→∃ x,b=a++x:=by
  intro α a b hl h
  refine⟨b.drop a.length,?_⟩
  apply List.ext_getElem?
  intro i
  by_cases hi:i<a.length
  ·rw[List.getElem?_append_left hi,List.getElem?_eq_getElem hi];exact h i _ (List.getElem?_eq_getElem hi)
  ·rw[List.getElem?_append_right (by omega),List.getElem?_drop];congr 1;omega
 refine⟨key h.len.1 fun l b hb=>h.frame l b hb fun t cs ht hlt=>?_,key h.len.2 hrow,by rw[h.mode,hm]⟩
 have:=Tr hr t cs ht
 omega
theorem LV.toks_mem {v:LV} {i s:Nat} {es:List AV} (h:v.has i s es):i∈v.toks:=by
 cases v with
 | own j s' es'=>obtain⟨rfl,_,_⟩:=h;simp[LV.toks]
 | ag cs=>exact NB h
 | _=>exact h.elim
theorem BK.move {ℓ':Nat→Nat} {ρ':Nat→Own} {v:LV} {a:AV} (hv:v.resOk=true) (h:BK P [] ℓ ρ v a) (hρ:∀ i s es,v.has i s es→ρ' i=ρ i):BK P fr ℓ' ρ' v a:=by
 cases v with
 | v x=>exact h
 | own i s es=>simp only[BK] at h ⊢;rw[hρ i s es ⟨rfl,rfl,rfl⟩];exact h
 | ag cs =>
  obtain⟨as_,h1,h2,h3⟩:=h
  refine⟨as_,h1,h2,fun j c a hj ha=>?_⟩
  have h4:=h3 j c a hj ha
  have h5:=List.all_eq_true.1 hv c (List.mem_of_getElem? hj)
  cases c with
  | own i s es=>simp only[EF] at h4 ⊢;rw[hρ i s es (List.mem_of_getElem? hj)];exact h4
  | fn f a b=>cases h5
  | p t=>cases h5
  | m t=>cases h5
  | _=>exact h4
 | _=>cases hv
theorem BP.putNew (h:BP P fr ℓ ρ c L env m) {dst:Option Tmp} {v:LV} {a:AV} (hv:BK P fr ℓ ρ v a) (htok:∀ i s es,v.has i s es→Bt m.rows i (ρ i) s es) (hap1:∀ i s es j s' es',v.has i s es→v.has j s' es'→i≠j→ρ i=.full∨ρ i≠ρ j)
  (hap2:∀ i s es j s' es',v.has i s es→Vis L j s' es'→i≠j→ρ i=.full∨ρ i≠ρ j) (hrl:∀ i s es,v.has i s es→∀ id,ρ i=.row id→c.base.rows.length≤id∨c.R0 id) (hd:Hj env dst):BP P fr ℓ ρ c (FR L dst v) (DS env dst a) m:=by
 have vis:∀ {i s es},Vis (FR L dst v) i s es→v.has i s es∨Vis L i s es:=by
  rintro i s es (⟨t,u,h1,h2⟩|⟨t,cs,h1,h2⟩)
  ·by_cases e:dst=some t
   ·subst e
    rw[Gm] at h1
    injection h1 with h1;subst h1;exact .inl h2
   ·rw[Hv e] at h1;exact .inr (.inl ⟨t,u,h1,h2⟩)
  ·rw[Eu] at h1;exact .inr (.inr ⟨t,cs,h1,h2⟩)
 refine⟨h.mode,fun t u h1 h2=>?_,fun t cs h1=>by rw[Eu] at h1;exact h.locs t cs h1,fun i s es hx=>(vis hx).elim (htok i s es) (h.tok i s es),fun i s es j s' es' h1 h2 hne=>?_,fun t t' cs cs' h1 h2=>by rw[Eu] at h1 h2;exact h.inj t t' cs cs' h1 h2,fun p hp=>by rw[Eu];exact h.bor p hp,fun t cs h1=>by rw[Eu] at h1;exact h.low t cs h1,fun i s es hx=>(vis hx).elim (hrl i s es) (h.rlow i s es),h.len,h.frame,h.rframe,⟨h.froz.1,fun q hq t cs h1=>by rw[Eu] at h1;exact h.froz.2 q hq t cs h1⟩⟩
 ·by_cases e:dst=some t
  ·subst e
   rw[Gm] at h1
   injection h1 with h1;subst h1
   exact⟨a,by simp only[DS];rw[List.getElem?_set_self (hd t rfl)],hv⟩
  ·rw[Hv e] at h1
   obtain⟨b,h3,h4⟩:=h.slot t u h1 h2
   exact⟨b,TJ e h3,h4⟩
 ·rcases vis h1 with g1 | g1
  ·rcases vis h2 with g2 | g2
   ·exact hap1 i s es j s' es' g1 g2 hne
   ·exact hap2 i s es j s' es' g1 g2 hne
  ·rcases vis h2 with g2 | g2
   ·rcases hap2 j s' es' i s es g2 g1 (fun e=>hne e.symm) with h5 | h5
    ·rw[h5]
     cases hj:ρ i with
     | full=>exact .inl rfl
     | _=>exact .inr (by simp)
    ·exact .inr fun e=>h5 e.symm
   ·exact h.apart i s es j s' es' g1 g2 hne
end
end
section
variable [Mu]
section
variable {P:Program} {fr:Fro} {ℓ:Nat→Nat} {ρ:Nat→Own} {c:FM} {L:AM} {env:List AV} {m:Mem}
def AV.fz:AV→AV
 | .tuple vs=>.tuple (vs.map AV.strip)
 | a=>a.strip
def CV.rdF:CV→Option AV
 | .own _ _ es=>some (.slice .foreign es)
 | x=>x.rd
def LV.rdF:LV→Option AV
 | .own _ _ es=>some (.slice .foreign es)
 | .ag cs=>(cs.mapM CV.rdF).map .agg
 | x=>x.rd
theorem Pj {m:Mem} {a:AV} (hf:Bo a.strip):Frz m a a.strip:=by
 have cell:∀ c:AV,Bo c.strip1→Frz m c c.strip1:=by
  intro c hc
  cases c with
  | slice o es=>cases hc with | slice _ _ _ h=>exact .mk h
  | _=>exact Bo.frz hc
 cases a with
 | slice o es=>cases hf with | slice _ _ _ h=>exact .mk h
 | agg cs =>
  cases hf with
  | agg _ h =>
   refine .agg _ _ (by simp) (fun j c c' h1 h2=>?_)
   rw[List.getElem?_map,h1] at h2
   injection h2 with h2;subst h2
   exact cell c (h _ (List.mem_map.2 ⟨c,List.mem_of_getElem? h1,rfl⟩))
 | _=>exact Bo.frz hf
theorem JV (a:AV):a.stripR1.strip=a.strip:=by
 cases a <;> simp[AV.stripR1,AV.strip,AV.strip1]
 intro c _
 cases c <;> rfl
theorem ADt {m:Mem} {a:AV} (hf:Bo a.fz):Frz m a.stripR a.fz:=by
 cases a with
 | tuple vs =>
  simp only[AV.fz,AV.stripR] at hf ⊢
  cases hf with
  | tuple _ h =>
   refine .tuple _ _ (by simp) (fun j c c' h1 h2=>?_)
   rw[List.getElem?_map] at h1 h2
   cases hv:vs[j]? with
   | none=>rw[hv] at h1;cases h1
   | some x =>
    rw[hv] at h1 h2
    injection h1 with h1;injection h2 with h2;subst h1 h2
    rw[← JV]
    exact Pj (by rw[JV];exact h _ (List.mem_map.2 ⟨x,List.mem_of_getElem? hv,rfl⟩))
 | agg cs =>
  have e:(AV.agg cs).stripR=(AV.agg cs).fz:=rfl
  rw[e];exact hf.frz
 | slice o es=>exact Pj hf
 | _=>exact hf.frz
theorem OP {α β:Type} {f:α→Option β}:∀ {l:List α} {r:List β},l.mapM f=some r→r.length=l.length∧∀ (j:Nat) (y:β),r[j]?=some y→∃ z,l[j]?=some z∧f z=some y:=by
 intro l
 induction l with
 | nil=>intro r h;simp at h;subst h;exact⟨rfl,fun j y h=>by simp at h⟩
 | cons x l ih =>
  intro r h
  simp only[List.mapM_cons,Option.pure_def,Option.bind_eq_bind] at h
  obtain⟨a,h1,h⟩:=AE h
  obtain⟨as_,h2,h⟩:=AE h
  injection h with h;subst h
  obtain⟨i1,i2⟩:=ih h2
  refine⟨by simp[i1],fun j y hy=>?_⟩
  cases j with
  | zero=>simp at hy;subst hy;exact⟨x,rfl,h1⟩
  | succ j=>simpa using i2 j y (by simpa using hy)
theorem Bt.frz {i s:Nat} {o:Own} {es:List AV} (h:Bt m.rows i o s es) (hf:∀ e∈es,∀ c∈e.cells,Bo c):Frz m (BZ i s o es) (.slice .foreign es):=by
 unfold Bt at h
 split at h
 ·rename_i hv
  rcases h with⟨rfl,rfl⟩|⟨id,rfl,h1,h2,h3⟩
  ·simp only[BZ,if_pos hv];exact .mk hf
  ·simp only[BZ,if_pos hv]
   refine .vec id 0 es.length s 0 .opn (flatC es) es h1 rfl (by rw[Bz h2];omega) h2 (fun k j e' c c' g1 g2 g3=>?_)
   have hj:j<s:=by rw[← h2 e' (List.mem_of_getElem? g1)];exact(List.getElem?_eq_some_iff.1 g3).1
   rw[Nat.zero_add,Mh h2 g1 hj,g3] at g2
   injection g2 with g2;subst g2
   exact(hf e' (List.mem_of_getElem? g1) c' (List.mem_of_getElem? g3)).frz
 ·rename_i hv
  simp only[BZ,if_neg hv];exact .mk hf
theorem HE (i s:Nat) (o:Own) (es:List AV):(BZ i s o es).stripR=BZ i s o es∧(BZ i s o es).stripR1=BZ i s o es∧(isV i=true→(∃ id,o=.row id)→(BZ i s o es).strip1=BZ i s o es)∧(BZ i s o es).strip1=(match isV i,o with
  | true,.row id=>.vec id 0 es.length s .opn
  | _,_=>.slice .foreign es):=by
 unfold BZ
 cases isV i <;> cases o <;> refine⟨rfl,rfl,?_,rfl⟩ <;> intro h1 h2 <;> first | (cases h1;done) | (obtain⟨_,h2⟩:=h2;cases h2;done) | rfl
theorem Bt.frz1 {i s:Nat} {o:Own} {es:List AV} (h:Bt m.rows i o s es) (hf:∀ e∈es,∀ c∈e.cells,Bo c):Frz m (BZ i s o es).strip1 (.slice .foreign es):=by
 have k:=h.frz hf
 rw[(HE i s o es).2.2.2]
 cases hv:isV i with
 | false=>exact .mk hf
 | true =>
  cases o with
  | row id=>simp only[BZ,hv,if_true] at k;exact k
  | _=>exact .mk hf
theorem Lg {o:Own} {es:List AV} (h:Bo (.slice o es)):∀ e∈es,∀ c∈e.cells,Bo c:=by
 cases h with | slice _ _ _ h=>exact h
theorem LV.frzF {v:LV} {a a':AV} (h:v.rdF=some a) (hr:BK P fr ℓ ρ v a') (ht:∀ i s es,v.has i s es→Bt m.rows i (ρ i) s es):(Bo a.fz→Frz m a'.stripR a.fz)∧(Bo a.strip→Frz m a'.stripR1 a.strip):=by
 cases v with
 | v x =>
  simp only[LV.rdF,LV.rd] at h
  injection h with h;subst h
  have e:a'=x:=hr
  subst e
  exact⟨ADt,fun hf=>by rw[← JV] at hf ⊢;exact Pj hf⟩
 | own i s es =>
  simp only[LV.rdF] at h
  injection h with h;subst h
  have e:a'=BZ i s (ρ i) es:=hr
  subst e
  have hm:=ht i s es ⟨rfl,rfl,rfl⟩
  obtain⟨e1,e2,_⟩:=HE i s (ρ i) es
  rw[e1,e2]
  exact⟨fun hf=>hm.frz (Lg hf),fun hf=>hm.frz (Lg hf)⟩
 | ag cs =>
  obtain⟨as_,rfl,hc⟩:=hr
  simp only[LV.rdF] at h
  obtain⟨ds,hds,rfl⟩:=Cr h
  have cells:∀ (j:Nat) (c' d':AV),(as_.map AV.strip1)[j]?=some c'→(ds.map AV.strip1)[j]?=some d'→Bo d'→Frz m c' d':=by
   intro j c' d' h1 h2 hf
   rw[List.getElem?_map] at h1 h2
   obtain⟨x,hx,rfl⟩:=Cr h1
   obtain⟨y,hy,rfl⟩:=Cr h2
   obtain⟨z,hz,hzy⟩:=(OP hds).2 j y hy
   have hrel:=hc.2 j z x hz hx
   cases z with
   | v w =>
    simp only[CV.rdF,CV.rd] at hzy
    injection hzy with hzy;subst hzy
    have e:x=w:=hrel
    subst e
    exact hf.frz
   | own i s es =>
    simp only[CV.rdF] at hzy
    injection hzy with hzy;subst hzy
    have e:x=BZ i s (ρ i) es:=hrel
    subst e
    exact(ht i s es (List.mem_of_getElem? hz)).frz1 (Lg hf)
   | _=>cases hzy
  have hl:as_.length=ds.length:=by rw[hc.1,(OP hds).1]
  have main:Bo (.agg (ds.map AV.strip1))→Frz m (.agg (as_.map AV.strip1)) (.agg (ds.map AV.strip1)):=by
   intro hf
   cases hf with
   | agg _ hf =>
    exact .agg _ _ (by simp[hl]) (fun j c c' h1 h2=>cells j c c' h1 h2 (hf c' (List.mem_of_getElem? h2)))
  exact⟨main,main⟩
 | _=>cases h
theorem LV.frzA {v:LV} {a a':AV} (h:v.rdF=some a) (hr:BK P fr ℓ ρ v a') (ht:∀ i s es,v.has i s es→Bt m.rows i (ρ i) s es) (hf:Bo a.strip):Frz m a'.strip a.strip:=by
 cases v with
 | v x=>simp only[LV.rdF,LV.rd] at h;injection h with h;subst h;have e:a'=x:=hr;subst e;exact hf.frz
 | own i s es =>
  simp only[LV.rdF] at h;injection h with h;subst h
  have e:a'=BZ i s (ρ i) es:=hr
  subst e
  have hm:=ht i s es ⟨rfl,rfl,rfl⟩
  have e2:(BZ i s (ρ i) es).strip=(BZ i s (ρ i) es).strip1:=by unfold BZ;cases isV i <;> cases ρ i <;> rfl
  rw[e2];exact hm.frz1 (Lg hf)
 | ag cs =>
  have h2:=(LV.frzF (v:=.ag cs) h hr ht).2 hf
  obtain⟨as',rfl,_⟩:=hr
  exact h2
 | _=>cases h
def lArgsF (L:AM) (l:List Operand):Option (List AV):=(levalsA L l).bind (·.mapM fun v=>v.rdF.map AV.strip)
theorem BP.lArgsF (h:BP P fr ℓ ρ c L env m):∀ {l:List Operand} {xs:List AV},lArgsF L l=some xs→(∀ a∈xs,Bo a)→∃ bs,EQ env l=some bs∧xs.length=(bs.map AV.strip).length∧∀ (j:Nat) (a a':AV),(bs.map AV.strip)[j]?=some a→xs[j]?=some a'→Frz m a a':=by
 intro l
 induction l with
 | nil=>intro xs hx _;simp[G.lArgsF,G.levalsA] at hx;subst hx;exact⟨[],rfl,rfl,fun j a a' h=>by simp at h⟩
 | cons x l ih =>
  intro xs hx hfl
  obtain⟨vs,h1,h2⟩:=AE hx
  simp only[G.levalsA,List.mapM_cons,Option.pure_def,Option.bind_eq_bind] at h1
  obtain⟨v,h3,h1⟩:=AE h1
  obtain⟨vs',h4,h1⟩:=AE h1
  injection h1 with h1;subst h1
  simp only[List.mapM_cons,Option.pure_def,Option.bind_eq_bind] at h2
  obtain⟨y,h5,h2⟩:=AE h2
  obtain⟨ys,h6,h2⟩:=AE h2
  injection h2 with h2;subst h2
  obtain⟨z,hz,rfl⟩:=Cr h5
  obtain⟨bs,k1,k2,k3⟩:=ih (xs:=ys) (by simp only[G.lArgsF,G.levalsA,h4,Option.bind_some];exact h6) (fun a ha=>hfl a (List.mem_cons_of_mem _ ha))
  obtain⟨_,⟨b,hb,hbr⟩,hvis⟩:=h.levalA h3
  refine⟨b :: bs,?_,by simpa using k2,fun j a a' hj hj'=>?_⟩
  ·simp only[EQ,List.mapM_cons,Option.pure_def,Option.bind_eq_bind,hb,Option.bind_some]
   rw[show l.mapM (BF env)=some bs from k1];rfl
  ·cases j with
   | zero =>
    simp at hj hj';subst hj hj'
    exact LV.frzA hz hbr (fun i s es hh=>h.tok i s es (hvis i s es hh)) (hfl _ List.mem_cons_self)
   | succ j=>exact k3 j a a' (by simpa using hj) (by simpa using hj')
def ALG (P:Program) (f:FuncId) (as_:List AV) (L:AM) (K:LV→AM→List Nat→Prop):Prop:=∃ r,Fn P f as_ r∧(∀ a∈as_,Bo a)∧Kf r∧K (.v r) L []
@[irreducible] def unB (j:Nat):Nat:=j - 40000000
theorem AJ0 (j:Nat):unB j=j - 40000000:=by unfold unB;rfl
theorem Vx (i:Nat):unB (i+40000000)=i:=by unfold unB;omega
theorem AIh {i j:Nat} (hi:40000000≤i) (hj:40000000≤j) (h:unB i=unB j):i=j:=by unfold unB at h;omega
def CV.toB:CV→Option CV
 | .v a=>some (.v a.strip1)
 | .own i s es=>if isV i=true then some (.own (i+40000000) s es) else some (.v (.slice .foreign es))
 | .p t=>some (.p t)
 | .m t=>some (.m t)
 | _=>none
def Lw (L:AM) (l:List (Nat × Operand)):Option (List (Nat × List CV)):=l.mapM fun p=>(levalA L p.2).bind fun v=>(v.cells).bind fun cs=>(cs.mapM CV.toB).map (p.1,·)
def Np (places:Nat→Option (Nat × Nat)) (cells:List CV):List (Nat × List CV)→Option (List CV)
 | []=>some cells
 | (i,xs) :: rest=>match places i with
  | none=>none
  | some (off,size)=>if xs.length=size∧off+size≤cells.length then Np places (Jx cells off xs) rest else none
def Lz (P:Program) (t:TypeId) (At:List (Nat × List CV)):Option (List CV) :=
 match DE P t,EL P t with
 | some cs,some ps=>Np (ps[·]?) (cs.map .v) At
 | _,_=>none
def OU (L:AM) (cs:List CV):AM:=killAll L (JW cs++(JW cs).map unB)
theorem AA0 {x d:CV} {a:AV} (h:x.toB=some d) (hr:EF ℓ ρ x a):EF ℓ (fun j=>ρ (unB j)) d a.strip1∧∀ j s es,d=.own j s es→isV (unB j)=true∧isV j=true∧40000000≤j∧x=.own (unB j) s es:=by
 cases x with
 | v y=>injection h with h;subst h;have e:a=y:=hr;subst e;exact⟨rfl,fun j s es e=>by cases e⟩
 | own i s es =>
  have e:a=BZ i s (ρ i) es:=hr
  subst e
  simp only[CV.toB] at h
  cases hi:isV i with
  | true =>
   rw[hi,if_pos rfl] at h
   injection h with h;subst h
   have h1:isV (i+40000000)=true:=by simp only[isV,decide_eq_true_eq] at hi ⊢;omega
   have h2:isB (i+40000000)=true:=by simp only[isV,isB,decide_eq_true_eq] at hi ⊢;omega
   refine⟨?_,fun j s' es' e=>?_⟩
   ·simp only[EF,Vx]
    rw[(HE i s (ρ i) es).2.2.2,hi]
    unfold BZ
    rw[if_pos h1,h2]
    cases ρ i <;> rfl
   ·injection e with e1 e2 e3;subst e1 e2 e3
    exact⟨by rw[Vx];exact hi,h1,by omega,by rw[Vx]⟩
  | false =>
   rw[hi] at h
   simp only[Bool.false_eq_true,if_false] at h
   injection h with h;subst h
   refine⟨?_,fun j s' es' e=>by cases e⟩
   simp only[EF]
   rw[(HE i s (ρ i) es).2.2.2,hi]
 | p t=>injection h with h;subst h;have e:a=.ptr (ℓ t) 0:=hr;subst e;exact⟨rfl,fun j s es e=>by cases e⟩
 | m t=>injection h with h;subst h;have e:a=.map (ℓ t):=hr;subst e;exact⟨rfl,fun j s es e=>by cases e⟩
 | _=>cases h
theorem AFj {cs ds:List CV} {bs:List AV} (h:cs.mapM CV.toB=some ds) (hr:Cs ℓ ρ cs bs):Cs ℓ (fun j=>ρ (unB j)) ds (bs.map AV.strip1)∧∀ j s es,CV.own j s es∈ds→isV (unB j)=true∧isV j=true∧40000000≤j∧CV.own (unB j) s es∈cs:=by
 obtain⟨h1,h2⟩:=OP h
 refine⟨⟨by rw[List.length_map,hr.1,h1],fun j d a hd ha=>?_⟩,fun j s es hm=>?_⟩
 ·obtain⟨z,hz,hzd⟩:=h2 j d hd
  rw[List.getElem?_map] at ha
  obtain⟨b,hb,rfl⟩:=Cr ha
  exact(AA0 (ρ:=ρ) (ℓ:=ℓ) hzd (hr.2 j z b hz hb)).1
 ·obtain⟨k,hk,he⟩:=List.getElem_of_mem hm
  have hd:ds[k]?=some (.own j s es):=by rw[← he];exact List.getElem?_eq_getElem hk
  obtain⟨z,hz,hzd⟩:=h2 k _ hd
  have hkb:k<bs.length:=by rw[hr.1,← h1];exact hk
  obtain⟨e1,e2,e3,e4⟩:=(AA0 (ρ:=ρ) (ℓ:=ℓ) hzd (hr.2 k z _ hz (List.getElem?_eq_getElem hkb))).2 j s es rfl
  exact⟨e1,e2,e3,by rw[← e4];exact List.mem_of_getElem? hz⟩
theorem ABu {places:Nat→Option (Nat × Nat)}:∀ {ps:List (Nat × List CV)} {qs:List (Nat × AV)} {cells out:List CV} {bs:List AV},Np places cells ps=some out→Cs ℓ ρ cells bs→ps.length=qs.length→(∀ (j:Nat) (p:Nat × List CV) (q:Nat × AV),ps[j]?=some p→qs[j]?=some q→p.1=q.1∧Bj q.2=true∧Cs ℓ ρ p.2 (q.2.cells.map AV.strip1)) →
  (∃ out',Gg places bs qs=some out'∧Cs ℓ ρ out out')∧∀ x∈out,x∈cells∨∃ p∈ps,x∈p.2:=by
 intro ps
 induction ps with
 | nil =>
  intro qs cells out bs h hr hl _
  simp[Np] at h;subst h
  have:qs=[]:=List.eq_nil_of_length_eq_zero hl.symm
  subst this
  exact⟨⟨bs,rfl,hr⟩,fun x hx=>.inl hx⟩
 | cons p ps ih =>
  intro qs cells out bs h hr hl hp
  obtain⟨i,xs⟩:=p
  cases qs with
  | nil=>simp at hl
  | cons q qs =>
   obtain⟨i',v⟩:=q
   obtain⟨e1,e2,e3⟩:=hp 0 _ _ rfl rfl
   dsimp only at e1 e2 e3
   subst e1
   simp only[Np] at h
   cases hpl:places i with
   | none=>rw[hpl] at h;cases h
   | some os =>
    obtain⟨off,size⟩:=os
    rw[hpl] at h
    dsimp only at h
    split at h
    ·rename_i hc
     have hl3:v.cells.length=size:=by rw[← hc.1,← e3.1,List.length_map]
     have hl4:off+size≤bs.length:=by rw[hr.1];exact hc.2
     obtain⟨⟨out',k1,k2⟩,k3⟩:=ih (bs:=Ca bs off (v.cells.map AV.strip1)) h (Qx hr e3 off) (by simpa using hl) (fun j p q hj hq=>hp (j+1) p q (by simpa using hj) (by simpa using hq))
     refine⟨⟨out',?_,k2⟩,fun x hx=>?_⟩
     ·simp only[Gg,hpl];rw[if_pos ⟨hl3,hl4,e2⟩];exact k1
     ·rcases k3 x hx with k4 | ⟨p,k4,k5⟩
      ·rcases Uf k4 with k6 | k6
       ·exact .inl k6
       ·exact .inr ⟨_,List.mem_cons_self,k6⟩
      ·exact .inr ⟨p,List.mem_cons_of_mem _ k4,k5⟩
    ·cases h
theorem BP.kills (h:BP P fr ℓ ρ c L env m) {ks:List Nat} {ρ':Nat→Own} (hρ:∀ j,j ∉ ks→ρ' j=ρ j):BP P fr ℓ ρ' c (killAll L ks) env m:=by
 have names:∀ {t cs},AI (killAll L ks).N t=some cs→∃ k,AI L.N t=some k:=fun h1=>by rw[HY] at h1;obtain⟨k,hk,_⟩:=Cr h1;exact⟨k,hk⟩
 refine⟨h.mode,fun t v h1 h2=>?_,fun t cs h1=>?_,fun i s es hi=>?_,fun i s es j s' es' h1 h2 hne=>?_,fun t t' cs cs' h1 h2 he=>?_,fun p hp=>?_,fun t cs h1=>?_,fun i s es hi id hid=>?_,h.len,h.frame,h.rframe,⟨h.froz.1,fun q hq t cs h1=>?_⟩⟩
 ·rw[Wr] at h1
  obtain⟨u,hu,rfl⟩:=Cr h1
  obtain⟨a,h3,h4⟩:=h.slot t u hu (Qe h2)
  exact⟨a,h3,QS h4 hρ⟩
 ·rw[HY] at h1
  obtain⟨u,hu,rfl⟩:=Cr h1
  obtain⟨bs,h3,h4⟩:=h.locs t u hu
  exact⟨bs,h3,h4.imp (fun as_ hc=>PE hc hρ) (fun es e=>by rw[e];simp only[List.map_cons,List.map_nil,VI])⟩
 ·obtain⟨k1,k2⟩:=HC hi
  rw[hρ i k2];exact h.tok i s es k1
 ·obtain⟨k1,k2⟩:=HC h1
  obtain⟨k3,k4⟩:=HC h2
  rw[hρ i k2,hρ j k4];exact h.apart i s es j s' es' k1 k3 hne
 ·obtain⟨k1,g1⟩:=names h1
  obtain⟨k2,g2⟩:=names h2
  exact h.inj t t' _ _ g1 g2 he
 ·obtain⟨⟨k,h1⟩,h2⟩:=h.bor p hp
  exact⟨⟨_,by rw[HY,h1];rfl⟩,h2⟩
 ·obtain⟨k1,g1⟩:=names h1
  exact h.low t k1 g1
 ·obtain⟨k1,k2⟩:=HC hi
  rw[hρ i k2] at hid;exact h.rlow i s es k1 id hid
 ·obtain⟨k1,g1⟩:=names h1
  exact h.froz.2 q hq t k1 g1
theorem BP.buildB (h:BP P fr ℓ ρ c L env m) {t:TypeId} {ps:Array (Nat × Operand)} {dst:Option Tmp} {At:List (Nat × List CV)} {cs:List CV} (hp:Lw L ps.toList=some At) (hb:Lz P t At=some cs) (hd:Hj env dst) :
  ∃ d ρ',aop P (.build t ps) env m=some (d,m)∧BP P fr ℓ ρ' c (FR (OU L cs) dst (.ag cs)) (DS env dst d) m:=by
 obtain⟨p1,p2⟩:=OP hp
 -- the parts' values
 have hval:∀ (l:List (Nat × Operand)) (At:List (Nat × List CV)),Lw L l=some At→∃ qs:List (Nat × AV),JM env l=some qs∧At.length=qs.length∧(∀ (j:Nat) (p:Nat × List CV) (q:Nat × AV),At[j]?=some p→qs[j]?=some q→p.1=q.1∧Bj q.2=true∧Cs ℓ (fun j=>ρ (unB j)) p.2 (q.2.cells.map AV.strip1)) ∧
   ∀ p∈At,∀ j s es,CV.own j s es∈p.2→isV (unB j)=true∧isV j=true∧40000000≤j∧Vis L (unB j) s es:=by
  intro l
  induction l with
  | nil=>intro At hp;simp[Lw] at hp;subst hp;exact⟨[],rfl,rfl,fun j p q h=>by simp at h,fun p h=>by simp at h⟩
  | cons x l ih =>
   intro At hp
   simp only[Lw,List.mapM_cons,Option.pure_def,Option.bind_eq_bind] at hp
   obtain⟨p,h1,hp⟩:=AE hp
   obtain⟨ps',h2,hp⟩:=AE hp
   injection hp with hp;subst hp
   obtain⟨v,h3,h1⟩:=AE h1
   obtain⟨ys,h4,h1⟩:=AE h1
   obtain⟨zs,h5,rfl⟩:=Cr h1
   obtain⟨qs,k1,k2,k3,k4⟩:=ih ps' h2
   obtain⟨_,⟨b,hb1,hb2⟩,hvis⟩:=h.levalA h3
   obtain⟨g1,g2,g3⟩:=Qt h4 hb2
   obtain⟨g4,g5⟩:=AFj h5 g1
   refine⟨(x.1,b) :: qs,?_,by simp[k2],fun j p q hj hq=>?_,fun p hp j s es hm=>?_⟩
   ·simp only[JM,List.mapM_cons,Option.pure_def,Option.bind_eq_bind,hb1,Option.bind_some,Option.map_some]
    rw[show l.mapM (fun p=>(BF env p.2).map (p.1,·))=some qs from k1];rfl
   ·cases j with
    | zero=>simp at hj hq;subst hj hq;exact⟨rfl,g2,g4⟩
    | succ j=>exact k3 j p q (by simpa using hj) (by simpa using hq)
   ·rcases List.mem_cons.1 hp with rfl | hp
    ·obtain⟨e1,e2,e3,e4⟩:=g5 j s es hm
     exact⟨e1,e2,e3,hvis _ _ _ (g3 _ _ _ e4)⟩
    ·exact k4 p hp j s es hm
 obtain⟨qs,k1,k2,k3,k4⟩:=hval _ _ hp
 unfold Lz at hb
 split at hb
 ·rename_i zs pl hz hpl
  have hz0:Cs ℓ (fun j=>ρ (unB j)) (zs.map CV.v) zs:=⟨by simp,fun j x a hx ha=>by
   rw[List.getElem?_map,ha] at hx
   injection hx with hx;subst hx;exact rfl⟩
  obtain⟨⟨out',f1,f2⟩,f3⟩:=ABu hb hz0 k2 k3
  have hown:∀ j s es,CV.own j s es∈cs→isV (unB j)=true∧isV j=true∧40000000≤j∧Vis L (unB j) s es:=by
   intro j s es hm
   rcases f3 _ hm with hm | ⟨p,hp,hm⟩
   ·obtain⟨x,_,e⟩:=List.mem_map.1 hm;cases e
   ·exact k4 p hp j s es hm
  let ρ':Nat→Own:=fun j=>if j∈JW cs then ρ (unB j) else ρ j
  have hin:∀ j s es,CV.own j s es∈cs→ρ' j=ρ (unB j):=fun j s es hm=>if_pos (NB hm)
  have hk:BP P fr ℓ ρ' c (OU L cs) env m:=h.kills (fun j hj=>if_neg (fun e=>hj (List.mem_append_left _ e)))
  have hcr:Cs ℓ ρ' cs out':=⟨f2.1,fun j x a hx ha=>by
   have:=f2.2 j x a hx ha
   cases x with
   | own i s es=>simp only[EF] at this ⊢;rw[hin i s es (List.mem_of_getElem? hx)];exact this
   | _=>exact this⟩
  refine⟨.agg out',ρ',?_,hk.putNew (v:=.ag cs) (a:=.agg out') ⟨out',rfl,hcr⟩ (fun i s es hh=>?_) (fun i s es j s' es' h1 h2 hne=>?_) (fun i s es j s' es' h1 h2 hne=>?_) (fun i s es hh id hid=>?_) hd⟩
  ·simp only[aop,k1,Option.bind_some,HO,hz,hpl,f1,Option.map_some]
  ·have hq:=hown i s es hh
   have h5:Bt m.rows (unB i) (ρ (unB i)) s es:=h.tok (unB i) s es hq.2.2.2
   rw[hin i s es hh]
   unfold Bt at h5 ⊢
   rw[if_pos hq.1] at h5
   rw[if_pos hq.2.1];exact h5
  ·have hq:=hown i s es h1
   have hr:=hown j s' es' h2
   rw[hin i s es h1,hin j s' es' h2]
   exact h.apart (unB i) s es (unB j) s' es' hq.2.2.2 hr.2.2.2 (fun e=>hne (AIh hq.2.2.1 hr.2.2.1 e))
  ·have hq:=hown i s es h1
   obtain⟨g1,g2⟩:=HC h2
   have n1:j ∉ JW cs:=fun e=>g2 (List.mem_append_left _ e)
   have n2:j≠unB i:=fun e=>g2 (List.mem_append_right _ (List.mem_map.2 ⟨i,NB h1,e.symm⟩))
   rw[hin i s es h1,show ρ' j=ρ j from if_neg n1]
   exact h.apart (unB i) s es j s' es' hq.2.2.2 g1 (fun e=>n2 e.symm)
  ·have hq:=hown i s es hh
   rw[hin i s es hh] at hid
   exact h.rlow (unB i) s es hq.2.2.2 id hid
 ·cases hb
end
end
section
def Nd (L:AM) (o:Fc):Option Bool :=
 match o.guard with
 | none=>some true
 | some (none,_)=>some false
 | some (some d,want) =>
  match AI L.S d with
  | some (.v (.atom (.bool b)))=>some (b == want)
  | some (.v (.tuple _))=>some false
  | _=>none
def LI:Op→Bool
 | .load ..=>true
 | _=>false
def Gj (x:Option (LV × AM × List Nat)) (K:LV→AM→List Nat→Prop):Prop :=
 match x with
 | some (v,L1,pd)=>K v L1 pd
 | none=>False
def lgo (x:Option Bool) (A B:Prop):Prop :=
 match x with
 | some true=>A
 | some false=>B
 | none=>False
def Ty [Mu] (P:Program) (x:Option (FuncId × List LA × List LA)) (y:Option (List LA)) (z:Option (List AV)) (pos:Fu) (L:AM) (K:LV→AM→List Nat→Prop):Prop :=
 match x,y,z with
 | some (f,first,cap),some as_,_=>Nv P f (first++as_++cap) pos L K
 | some (f,[],[]),none,some as_=>ALG P f as_ L K
 | _,_,_=>False
def Pk (P:Program) (t:TypeId) (x:Option (List (Nat × AV))) (y:Option (List (Nat × List CV))) (L:AM) (K:LV→AM→List Nat→Prop):Prop :=
 match x,y with
 | some l,_=>Gj (Gi L (HO P t l)) K
 | none,some l=>Gj ((Lz P t l).map fun cs=>(.ag cs,OU L cs,[])) K
 | _,_=>False
def LOp [Mu] (P:Program) (op:Op) (dst:Option Tmp) (pos:Fu) (L:AM) (K:LV→AM→List Nat→Prop):Prop :=
 match op with
 | .call { callee:=.value f,args,.. }=>Ty P ((levalA L f).bind LV.fun_) (AG9 L args.toList) (lArgsF L args.toList) pos L K
 | .build t ps=>Pk P t (lparts L ps.toList) (Lw L ps.toList) L K
 | op=>Gj (lop P op dst pos L) K
def OT (L:AM):Op→Bool
 | .store _ a _=>match levalA L a with
  | some (.vref _ _ _ _)=>true
  | _=>false
 | _=>false
def Ob (L:AM):Op→Bool
 | .store _ a _=>match levalA L a with
  | some (.lref _ _)=>true
  | _=>false
 | _=>false
def AAu:Op→Bool
 | .store ..=>true
 | _=>false
def swG (l:List Nat) (k:Nat) (L:AM) (op:Op):Bool :=
 match l with
 | [x,y]=>(!(x == 1000000+k) || OT L op)&&(!(y == 2000000+k) || Ob L op)
 | _=>true
def Uh (pr:Nat × List Nat) (k:Nat) (pend:List Nat):Fu:=⟨decide (k<pr.1),pend,pr.2.contains k⟩
def GG [Mu] (P:Program) (pr:Nat × List Nat) (Q:AM→Prop):Nat→List Fc→List Nat→AM→Prop
 | _,[],_,L=>Q L
 | k,o :: l,pend,L=>lgo (Nd L o)
   (MU ((!pr.2.contains k || LI o.op)&&swG pr.2 k L o.op) (LOp P o.op o.dst (Uh pr k pend) L fun v L1 pd=>GG P pr Q (k+1) l (pd++pend) (FR L1 o.dst v)))
   (GG P pr Q (k+1) l pend (FR L o.dst (.v .undef)))
def AFt (ops:Array Oper) (o:Oper):Bool :=
 match o.op with
 | .call { callee:=.builtin .append,args,.. }=>match args.toList with
  | .tmp a :: _=>ops.toList.any fun x=>x.dst == some a&&(match x.op with
   | .buildSlice ..=>true
   | _=>false)
  | _=>false
 | _=>false
def To (ops:Array Oper):Nat→List Oper→Nat
 | k,[]=>k
 | k,o :: l=>if Vo o.op || RL o.op || AFt ops o then To ops (k+1) l else k
def AKI (ops:Array Oper) (p:Nat):List Nat :=
 let bs:=FW [] ops.toList
 (List.range p).filter fun i=>match ops[i]? with
  | some x=>LI x.op&&(List.range ops.size).any fun j=>decide (p≤j)&&(match ops[j]?,bs[j]? with
   | some o,some b=>!Bh o.op&&!b.testBit i
   | _,_=>false)
  | none=>false
def lsw (ops:Array Oper) (p:Nat):List Nat→List Nat
 | []=>match YP ops p with
  | some (a,b)=>[1000000+a,2000000+b]
  | none=>[]
 | l=>l
def lp (ops:Array Oper):Nat × List Nat:=(To ops 0 ops.toList,lsw ops (To ops 0 ops.toList) (AKI ops (To ops 0 ops.toList)))
def MK (id:Nat):Code→Option (Nat × List Nat)
 | .seq a b=>(MK id a).or (MK id b)
 | .cond _ a b=>(MK id a).or (MK id b)
 | .block _ c=>MK id c
 | .scope c=>MK id c
 | .loop c=>MK id c
 | .rangeFunc _ _ a b=>(MK id a).or (MK id b)
 | .region i ops draw=>if i=id∧draw=true then some (lp ops) else none
 | _=>none
def lrp (P:Program) (f:FuncId) (id:Nat):Nat × List Nat:=(MK id (Cd P f)).getD (0,[])
def okL (all:Code) (n:Nat):Code→Bool
 | .seq a b=>okL all n a&&okL all n b
 | .cond _ a b=>okL all n a&&okL all n b
 | .block _ c=>okL all n c
 | .scope c=>okL all n c
 | .loop c=>okL all n c
 | .region id ops draw=>(ops.toList.all fun o=>match o.dst with
  | some t=>decide (t<n)
  | none=>true)&&(!draw || (decide (MK id all=some (lp ops))&&FC ops (lp ops).1 (swD (lp ops).2) (ABw (lp ops).2)&&decide ((lp ops).1≤ops.size)))
 | .rangeFunc _ ps a b=>okL all n a&&okL all n b&&ps.toList.all fun t=>decide (t<n)
 | _=>true
def UpQ [Mu] (P:Program) (n:Nat) (c:FM) (Q:AM→Prop) (env:List AV) (m:Mem):Prop:=env.length=n∧∃ L,Rel P c L env m∧Q L
def AJ [Mu] (P:Program) (f:FuncId) (lo:Option Nat) (c:FM) (k:Nat) (Q:Exit→AM→Prop) (L:AM):Prop :=
 ∀ env m,env.length=BN P f→Rel P c L env m→RN P lo (Bm P f k) (fun x=>UpQ P (BN P f) c (Q x)) env m
def Ku [Mu] (P:Program) (f:FuncId) (lo:Option Nat) (c:FM) (g:Operand) (ps:Array Tmp) (k j:Nat) (Q:Exit→AM→Prop) (L:AM):Prop :=
 ∀ env m,env.length=BN P f→Rel P c L env m→∃ x env' m',Bu P lo (.rangeFunc g ps (Bm P f k) (Bm P f j)) env m x env' m'∧UpQ P (BN P f) c (Q x) env' m'
def YC (A B:Prop):Option LV→Prop
 | some (.v (.atom (.bool true)))=>A
 | some (.v (.atom (.bool false)))=>B
 | _=>False
def RI (K:AM→Prop) (Q:Exit→AM→Prop):Exit→AM→Prop
 | .normal=>K
 | e=>Q e
def LC [Mu] (P:Program) (f:FuncId) (lo:Option Nat) (c:FM):ID→(Exit→AM→Prop)→AM→Prop
 | .skip,Q=>Q .normal
 | .exit id,Q=>Q (.exit id)
 | .ret,Q=>Q .ret
 | .bad,_=>fun _=>False
 | .seq a b,Q=>LC P f lo c a (RI (LC P f lo c b Q) Q)
 | .cond t a b,Q=>fun L=>YC (LC P f lo c a Q L) (LC P f lo c b Q L) (AI L.S t)
 | .block id a,Q=>LC P f lo c a fun e=>Q (KS id e)
 | .scope a,Q=>LC P f lo c a fun e L=>Qj e=true∧Q e L
 | .loop k,Q=>AJ P f lo c k Q
 | .region none ops,Q=>GG P (0,[]) (Q .normal) 0 ops []
 | .region (some id) ops,Q=>GG P (lrp P f id) (Q .normal) 0 ops []
 | .range g ps k j,Q=>Ku P f lo c g ps k j Q
variable [Mu]
section
variable {fr:Fro} {ℓ:Nat→Nat} {ρ:Nat→Own} {c:FM} {L:AM} {env:List AV} {m:Mem} {P:Program} {f:FuncId} {lo:Option Nat}
theorem UA (h:BP P fr ℓ ρ c L env m) {ops:Array Oper} {o:Oper} {b:Bool} (hw:Nd L (LG ops o)=some b):DN ops env o=some b:=by
 unfold Nd LG at hw
 unfold DN
 cases hg:o.guard with
 | none=>rw[hg] at hw;exact hw
 | some g =>
  obtain⟨j,w⟩:=g
  rw[hg] at hw
  simp only[Option.map_some] at hw
  dsimp only
  cases hd:(ops[j]?).bind (·.dst) with
  | none=>rw[hd] at hw;exact hw
  | some d =>
   rw[hd] at hw
   dsimp only at hw ⊢
   have key:∀ a,AI L.S d=some (.v a)→env[d]?=some a:=by
    intro a ha
    obtain⟨b,h1,h2⟩:=h.slot d _ ha (by simp)
    simp only[BK] at h2;subst h2;exact h1
   split at hw
   ·rename_i c hc;rw[key _ hc];exact hw
   ·rename_i vs hc;rw[key _ hc];exact hw
   ·cases hw
theorem AKF {op:Op} {dst:Option Tmp} {pos:Fu} {v:LV} {L1:AM} {pd:List Nat} (h:lop P op dst pos L=some (v,L1,pd)) (hn:LI op=false):pd=[]:=by
 have pu:∀ {x:Option AV},Gi L x=some (v,L1,pd)→pd=[]:=by
  intro x hx
  cases x with
  | none=>cases hx
  | some a=>simp only[Gi,Option.map_some] at hx;injection hx with hx;injection hx with _ hx;injection hx with _ hx;exact hx.symm
 have sl:∀ {u:Option LV} {x:Option AV},Zr L u x=some (v,L1,pd)→pd=[]:=by
  intro u x hx
  unfold Zr at hx
  split at hx
  ·injection hx with hx;injection hx with _ hx;injection hx with _ hx;exact hx.symm
  ·exact pu hx
 have cu:∀ {t xt:TypeId} {x y:LV} {e:Bool},YI P t xt x y dst e L=some (v,L1,pd)→pd=[]:=by
  intro t xt x y e hx
  unfold YI at hx
  split at hx
  ·split at hx
   ·split at hx
    ·injection hx with hx;injection hx with _ hx;injection hx with _ hx;exact hx.symm
    ·cases hx
   ·cases hx
  ·cases hx
 have sa:∀ {x:Option LV},JR L x=some (v,L1,pd)→pd=[]:=fun hx=>(IN hx).2.2
 have bo:∀ {x:Option (List CV)},TG dst L x=some (v,L1,pd)→pd=[]:=by
  intro x hx
  unfold TG at hx
  split at hx
  ·split at hx
   ·obtain⟨a,_,hx⟩:=DU hx
    injection hx with _ hx;injection hx with _ hx;exact hx.symm
   ·cases hx
  ·cases hx
 have li:∀ {t:TypeId} {x:Option AV},Yf P t dst L x=some (v,L1,pd)→pd=[]:=by
  intro t x hx
  unfold Yf at hx
  obtain⟨a,_,hx⟩:=AE hx
  split at hx
  ·split at hx
   ·injection hx with hx;injection hx with _ hx;injection hx with _ hx;exact hx.symm
   ·cases hx
  ·injection hx with hx;injection hx with _ hx;injection hx with _ hx;exact hx.symm
 have ms:∀ {t:TypeId} {p:LV} {k y:AV},KZ P t p k y pos L=some (v,L1,pd)→pd=[]:=by
  intro t p k y hx
  unfold KZ at hx
  split at hx
  ·split at hx
   ·obtain⟨_,_,hx⟩:=AE hx
    obtain⟨_,_,hx⟩:=AE hx
    obtain⟨_,_,hx⟩:=AE hx
    obtain⟨_,_,hx⟩:=AE hx
    obtain⟨_,_,hx⟩:=DU hx
    injection hx with _ hx;injection hx with _ hx;exact hx.symm
   ·cases hx
  ·cases hx
 unfold lop at h
 split at h <;> first | exact pu h | exact sl h | exact li h | exact sa h | exact bo h | (cases hn;done) | skip
 ·obtain⟨p,_,h⟩:=AE h
  obtain⟨u,_,h⟩:=AE h
  unfold Mb at h
  split at h
  ·split at h
   ·obtain⟨ys,_,h⟩:=AE h
    split at h
    ·injection h with h;injection h with _ h;injection h with _ h;exact h.symm
    ·cases h
   ·cases h
  ·split at h
   ·split at h
    ·obtain⟨e,_,h⟩:=AE h
     obtain⟨s,_,h⟩:=DU h
     injection h with _ h;injection h with _ h;exact h.symm
    ·cases h
   ·cases h
  ·cases h
 ·split at h
  ·obtain⟨vx,_,h⟩:=AE h
   split at h
   ·obtain⟨vy,_,h⟩:=AE h
    exact cu h
   obtain⟨vy,_,h⟩:=AE h
   unfold Hr at h
   split at h
   ·split at h
    ·split at h
     ·cases h
     ·obtain⟨s,_,h⟩:=DU h
      injection h with _ h;injection h with _ h;exact h.symm
    ·split at h
     ·cases h
     ·obtain⟨s,_,h⟩:=AE h
      split at h
      ·injection h with h;injection h with _ h;injection h with _ h;exact h.symm
      ·cases h
    ·cases h
   ·cases h
  ·cases h
 ·unfold Ug at h
  split at h
  ·split at h
   ·injection h with h;injection h with _ h;injection h with _ h;exact h.symm
   ·cases h
  ·cases h
 ·obtain⟨p,_,h⟩:=AE h
  obtain⟨k,_,h⟩:=AE h
  unfold Nr at h
  split at h
  ·split at h
   ·cases h
   ·obtain⟨_,_,h⟩:=AE h
    obtain⟨_,_,h⟩:=AE h
    obtain⟨_,_,h⟩:=AE h
    obtain⟨_,_,h⟩:=AE h
    obtain⟨_,_,h⟩:=AE h
    obtain⟨_,_,h⟩:=DU h
    injection h with _ h;injection h with _ h;exact h.symm
  ·cases h
 ·obtain⟨p,_,h⟩:=AE h
  obtain⟨k,_,h⟩:=AE h
  obtain⟨y,_,h⟩:=AE h
  exact ms h
 ·obtain⟨p,_,h⟩:=AE h
  obtain⟨k,_,h⟩:=AE h
  obtain⟨y,_,h⟩:=AE h
  exact ms h
 ·cases h
def TM (P:Program) (ℓ:Nat→Nat) (L:AM) (m:Mem) (pend:List Nat) (pr:List (Oper × List AV × AV)):Prop :=
 (∀ t∈pend,∃ cs,AI L.N t=some cs)∧∀ x∈pr,∃ t a p,x.1.op=.load t a∧BF x.2.1 a=some p∧Fo P m t p=some x.2.2∧((∃ e off,p=.eptr e off)∨∃ t' off,t'∈pend∧p=.ptr (ℓ t') off)
theorem TM.aop {pend:List Nat} {pr:List (Oper × List AV × AV)} (h:TM P ℓ L m pend pr):∀ x∈pr,AOp P x.1 x.2.1 m x.2.2 m:=by
 intro x hx
 obtain⟨t,a,p,h1,h2,h3,_⟩:=h.2 x hx
 refine JN ?_
 rw[h1]
 simp only[G.aop,h2,Option.bind_some,h3,Option.map_some]
theorem TM.step {ℓ':Nat→Nat} {L1:AM} {m1:Mem} {dst:Option Tmp} {v:LV} {pend:List Nat} {pr:List (Oper × List AV × AV)} (h:TM P ℓ L m pend pr)
  (hs:∀ t∈pend,(∃ cs,AI L.N t=some cs)→ℓ' t=ℓ t∧m1.boxes[ℓ t]?=m.boxes[ℓ t]?∧∃ cs,AI L1.N t=some cs):TM P ℓ' (FR L1 dst v) m1 pend pr:=by
 refine⟨fun t ht=>by rw[Eu];exact(hs t ht (h.1 t ht)).2.2,fun x hx=>?_⟩
 obtain⟨t,a,p,h1,h2,h3,h4⟩:=h.2 x hx
 refine⟨t,a,p,h1,h2,?_,?_⟩
 ·rcases h4 with⟨e,off,rfl⟩|⟨t',off,h5,rfl⟩
  ·exact h3
  ·have:=(hs t' h5 (h.1 t' h5)).2.1
   simp only[Fo,this];exact h3
 ·rcases h4 with h4 | ⟨t',off,h5,rfl⟩
  ·exact .inl h4
  ·exact .inr ⟨t',off,h5,by rw[(hs t' h5 (h.1 t' h5)).1]⟩
theorem NL.mono {fi:FuncId} {first cap:List AV} {C C':Mem→Prop} {xs:List (List AV)} (h:NL P fi first cap C xs) (hc:∀ m,C' m→C m):NL P fi first cap C' xs :=
 fun b yv I D m h1 h2 h3 h4 h5 h6 h7=>h b yv I D m h1 h2 (fun i m hi=>hc m (h3 i m hi)) h4 h5 h6 h7
theorem BP.grow (h:BP P fr ℓ ρ c L env m) {m':Mem} (he:Ext m m') {fr2:Fro} (h2:RE fr2 m') (h3:∀ q∈fr2,m.boxes.length≤q.1):BP P (fr2++fr) ℓ ρ c L env m' where
 mode:=by rw[he.modeEq,h.mode]
 slot:=fun t v h4 h5=>by
  obtain⟨a,h6,h7⟩:=h.slot t v h4 h5
  refine⟨a,h6,?_⟩
  cases v with
  | iter xs =>
   obtain⟨fi,first,cap,rfl,hi⟩:=h7
   exact⟨fi,first,cap,rfl,hi.mono fun m hm q hq=>hm q (List.mem_append_right _ hq)⟩
  | _=>exact h7
 locs:=fun t cs h4=>let ⟨as_,h5,h6⟩:=h.locs t cs h4;⟨as_,he.get h5,h6⟩
 tok:=fun i s es hv=>by
  exact(h.tok i s es hv).mono fun id _ x hx=>he.getRow hx
 apart:=h.apart
 inj:=h.inj
 bor:=h.bor
 low:=h.low
 rlow:=h.rlow
 len:=⟨Nat.le_trans h.len.1 he.mono.1,Nat.le_trans h.len.2 he.mono.2⟩
 frame:=fun l b h4 h5=>he.get (h.frame l b h4 h5)
 rframe:=fun id x h4 h5=>he.getRow (h.rframe id x h4 h5)
 froz:=⟨fun q hq=>by
  rcases List.mem_append.1 hq with hq | hq
  ·exact h2 q hq
  ·exact he.get (h.froz.1 q hq),fun q hq t cs ht=>by
  rcases List.mem_append.1 hq with hq | hq
  ·have h4:=h3 q hq
   have:=h.boxLt ht
   omega
  ·exact h.froz.2 q hq t cs ht⟩
theorem LAs.av_append:∀ {x y:List LA},LAs.av ℓ (x++y)=LAs.av ℓ x++LAs.av ℓ y:=by
 intro x
 induction x with
 | nil=>intro y;rfl
 | cons a l ih=>intro y;simp only[List.cons_append,LAs.av,ih]
theorem LAs.av_map {l:List AV}:LAs.av ℓ (l.map .a)=l:=by
 induction l with
 | nil=>rfl
 | cons a l ih=>simp only[List.map_cons,LAs.av,LA.av,ih]
theorem ANA {v:LV} {x:LA} {a:AV} (h:v.la=some x) (hr:BK P fr ℓ ρ v a):LA.av ℓ x=a.strip:=AES (P:=P) (fr:=fr) (ρ:=ρ) (by unfold LV.la at h;unfold LV.la1;exact h) hr
theorem AEV {v:LV} {g:FuncId} {first cap:List LA} {a:AV} (h:v.fun_=some (g,first,cap)) (hr:BK P fr ℓ ρ v a):a=.func g (LAs.av ℓ first) (LAs.av ℓ cap):=by
 unfold LV.fun_ at h
 split at h
 ·injection h with h;injection h with h1 h2;injection h2 with h2 h3;subst h1 h2 h3
  rw[LAs.av_map,LAs.av_map];exact hr
 ·injection h with h;injection h with h1 h2;injection h2 with h2 h3;subst h1 h2 h3
  exact hr
 ·cases h
def Zh (n:Nat) (l:List Oper):Prop:=∀ o∈l,∀ t,o.dst=some t→t<n
theorem Yr {dst:Option Tmp} {d:AV}:(DS env dst d).length=env.length:=by
 unfold DS;split <;> simp
theorem VJ {τ:List (Nat × Nat)} {t:Nat}:∀ {N':List (Nat × List CV)} {L:AM},(∃ k,AI L.N t=some k)→∃ k',AI (EO τ L N').N t=some k':=by
 intro N'
 induction N' with
 | nil=>intro L h;exact h
 | cons x l ih =>
  obtain⟨n0,c0⟩:=x
  intro L h
  simp only[EO,Dq,AI]
  split
  ·exact⟨_,rfl⟩
  ·exact ih h
omit [Mu] in
theorem AB4 {τ:List (Nat × Nat)}:∀ {Nn:List (Nat × List CV)} {D:List Nat} {L:AM},Hq τ D Nn L=true→∀ n cs,(n,cs)∈Nn→AI Nn n=some cs:=by
 have no:∀ {Nn:List (Nat × List CV)} {D:List Nat} {L:AM} {n:Nat} {cs:List CV},n∈D→Hq τ D Nn L=true→(n,cs)∈Nn→False:=by
  intro Nn
  induction Nn with
  | nil=>intro D L n cs _ _ hm;cases hm
  | cons y l ih =>
   intro D L n cs hD hok hm
   obtain⟨n0,c0⟩:=y
   simp only[Hq,Bool.and_eq_true,decide_eq_true_eq,Bool.not_eq_true'] at hok
   rcases List.mem_cons.1 hm with e | hm
   ·injection e with e1 e2;subst e1
    have:=hok.1.2.2.2.2
    rw[List.contains_iff_mem.2 hD] at this;cases this
   ·exact ih (List.mem_cons_of_mem _ hD) hok.2 hm
 intro Nn
 induction Nn with
 | nil=>intro D L _ n cs hm;cases hm
 | cons y l ih =>
  intro D L hok n cs hm
  obtain⟨n0,c0⟩:=y
  simp only[Hq,Bool.and_eq_true] at hok
  rcases List.mem_cons.1 hm with e | hm
  ·injection e with e1 e2;subst e1 e2;simp[AI]
  ·simp only[AI]
   split
   ·rename_i e;subst e;exact(no List.mem_cons_self hok.2 hm).elim
   ·exact ih hok.2 n cs hm
theorem BP.bind1 (h:BP P fr ℓ ρ c L env m) {d l:Nat} {cs:List CV} {bx:Ck} (hok:FO d L=true) (hro:d<DQ) (hb:m.boxes[l]?=some bx) (hcr:FH (fun x=>if x=d then l else ℓ x) ρ cs bx) (hvis:∀ i s es,CV.own i s es∈cs→Vis L i s es) (hlow:c.base.boxes.length≤l)
  (hne:∀ t k,AI L.N t=some k→ℓ t≠l) (hfr:∀ q∈fr,l≠q.1):BP P fr (fun x=>if x=d then l else ℓ x) ρ c (Dq L d cs) env m:=by
 simp only[FO,Bool.and_eq_true] at hok
 have hS:=Qu hok.1
 have hN:=LB hok.2
 have hℓ:∀ t,t≠d→(fun x=>if x=d then l else ℓ x) t=ℓ t:=fun t ht=>if_neg ht
 have key:∀ {t:Nat} {k:List CV},AI (Dq L d cs).N t=some k→(t=d∧k=cs)∨(t≠d∧AI L.N t=some k):=by
  intro t k h1
  simp only[Dq,AI] at h1
  split at h1
  ·rename_i e;injection h1 with h1;exact .inl ⟨e.symm,h1.symm⟩
  ·rename_i e;exact .inr ⟨fun e'=>e e'.symm,h1⟩
 refine⟨h.mode,fun t u h1 h2=>?_,fun t k h1=>?_,fun i s es hh=>h.tok i s es (Gq hvis hh),fun i s es j s' es' h1 h2=>h.apart i s es j s' es' (Gq hvis h1) (Gq hvis h2),fun t t' k k' h1 h2 h3=>?_,fun p hp=>?_,fun t k h1=>?_,fun i s es hh=>h.rlow i s es (Gq hvis hh),h.len,h.frame,h.rframe,h.froz.1,fun q hq t k h1=>?_⟩
 ·obtain⟨a,h3,h4⟩:=h.slot t u h1 h2
  exact⟨a,h3,Wf hℓ (hS t u h1) h4⟩
 ·rcases key h1 with⟨rfl,rfl⟩|⟨h2,h3⟩
  ·exact⟨bx,by simpa using hb,hcr⟩
  ·obtain⟨b',h4,h5⟩:=h.locs t k h3
   simp only[if_neg h2]
   exact⟨b',h4,h5.imp (fun as_ hc=>Lj hℓ (hN t k h3).2 hc) (fun _ e=>e)⟩
 ·rcases key h1 with⟨rfl,rfl⟩|⟨h4,h5⟩
  ·rcases key h2 with⟨rfl,rfl⟩|⟨h6,h7⟩
   ·rfl
   ·simp only[if_true,if_neg h6] at h3
    exact absurd h3.symm (hne _ _ h7)
  ·rcases key h2 with⟨rfl,rfl⟩|⟨h6,h7⟩
   ·simp only[if_true,if_neg h4] at h3
    exact absurd h3 (hne _ _ h5)
   ·simp only[if_neg h4,if_neg h6] at h3
    exact h.inj t t' k k' h5 h7 h3
 ·obtain⟨⟨k,h1⟩,h2⟩:=h.bor p hp
  have hne:=(hN _ k h1).1
  refine⟨⟨k,?_⟩,by simp only[if_neg hne];exact h2⟩
  simp only[Dq,AI];rw[if_neg (fun e=>hne e.symm)];exact h1
 ·rcases key h1 with⟨rfl,rfl⟩|⟨h2,h3⟩
  ·left;simp only[if_true];exact hlow
  ·simp only[if_neg h2];exact h.low t k h3
 ·rcases key h1 with⟨rfl,rfl⟩|⟨h2,h3⟩
  ·simp only[if_true];exact hfr q hq
  ·simp only[if_neg h2];exact h.froz.2 q hq t k h3
omit [Mu] in
theorem AGe {ℓ ℓc:Nat→Nat} {ρ:Nat→Own} {τ:List (Nat × Nat)} {D:List Nat} (hD:∀ n∈D,ℓ (rn τ n)=ℓc n) {cs:List CV} {bx:Ck} (hr:cs.all (Ll D)=true) (h:FH ℓc (fun _=>.full) cs bx):FH ℓ ρ (cs.map (CV.ren τ)) bx:=by
 refine h.imp (fun as_ hc=>⟨by simpa using hc.1,fun j x a hj ha=>?_⟩) (fun es e=>by subst e;rfl)
 rw[List.getElem?_map] at hj
 obtain⟨y,hy,rfl⟩:=Cr hj
 have h1:=hc.2 j y a hy ha
 have h2:=List.all_eq_true.1 hr y (List.mem_of_getElem? hy)
 cases y <;> simp only[Ll] at h2 <;> try cases h2
 ·exact h1
 ·rename_i t
  simp only[EF,CV.ren] at h1 ⊢
  rw[hD t (List.contains_iff_mem.1 h2)];exact h1
 ·rename_i t
  simp only[EF,CV.ren] at h1 ⊢
  rw[hD t (List.contains_iff_mem.1 h2)];exact h1
 ·exact h1.elim
theorem BP.bindN {τ:List (Nat × Nat)} {ℓc:Nat→Nat}:∀ {Nn:List (Nat × List CV)} {D:List Nat} {L:AM} {ℓ:Nat→Nat},BP P fr ℓ ρ c L env m→Hq τ D Nn L=true→(∀ n∈D,ℓ (rn τ n)=ℓc n∧∃ k,AI L.N (rn τ n)=some k) →
  (∀ n cs,(n,cs)∈Nn→c.base.boxes.length≤ℓc n∧(∀ q∈fr,ℓc n≠q.1)∧∃ b,m.boxes[ℓc n]?=some b∧FH ℓc (fun _=>.full) cs b)→(∀ t k,AI L.N t=some k→∀ n cs,(n,cs)∈Nn→ℓ t≠ℓc n)→(∀ n cs n' cs',(n,cs)∈Nn→(n',cs')∈Nn→ℓc n=ℓc n'→n=n') →
  ∃ ℓ',BP P fr ℓ' ρ c (G.bindN τ Nn L) env m∧(∀ t k,AI L.N t=some k→ℓ' t=ℓ t∧∃ k',AI (G.bindN τ Nn L).N t=some k')∧∀ n,MA n Nn=true∨n∈D→ℓ' (rn τ n)=ℓc n:=by
 intro Nn
 induction Nn with
 | nil=>intro D L ℓ h _ hD _ _ _;exact⟨ℓ,h,fun t k hk=>⟨rfl,k,hk⟩,fun n hn=>by rcases hn with hn | hn;cases hn;exact(hD n hn).1⟩
 | cons x Nn ih =>
  obtain⟨n,cs⟩:=x
  intro D L ℓ h hok hD hl hne hinj
  simp only[Hq,Bool.and_eq_true,decide_eq_true_eq,Bool.not_eq_true'] at hok
  obtain⟨⟨ha,hro,hfr,href,hnD⟩,hok⟩:=hok
  obtain⟨hlow,hq,b,hb,hbr⟩:=hl n cs List.mem_cons_self
  have hN:∀ t k,AI L.N t=some k→t≠rn τ n:=by
   simp only[FO,Bool.and_eq_true] at ha
   exact fun t k hk=>(LB ha.2 t k hk).1
  have h1:=h.bind1 (d:=rn τ n) (l:=ℓc n) (cs:=cs.map (CV.ren τ)) ha hro hb (AGe (D:=D) (fun n' hn'=>by
    obtain⟨k1,k,k2⟩:=hD n' hn'
    simp only[if_neg (hN _ k k2)];exact k1) href hbr) (fun i s es hi=>by
    obtain⟨y,hy,e⟩:=List.mem_map.1 hi
    have:=List.all_eq_true.1 href y hy
    cases y <;> simp only[CV.ren,Ll] at e this <;> first | (cases e;done) | (cases this;done) | (cases e;cases this)) hlow (fun t k hk=>hne t k hk n cs List.mem_cons_self) hq
  have hget:∀ t k,AI L.N t=some k→AI (Dq L (rn τ n) (cs.map (CV.ren τ))).N t=some k:=by
   intro t k hk
   simp only[Dq,AI];rw[if_neg (fun e=>hN t k hk e.symm)];exact hk
  obtain⟨ℓ',g1,g2,g3⟩:=ih (D:=n :: D) h1 hok (fun n' hn'=>by
    rcases List.mem_cons.1 hn' with rfl | hn'
    ·exact⟨by simp,_,by simp only[Dq,AI,if_true];rfl⟩
    ·obtain⟨k1,k,k2⟩:=hD n' hn'
     exact⟨by simp only[if_neg (hN _ k k2)];exact k1,k,hget _ k k2⟩) (fun n' cs' hm=>hl n' cs' (List.mem_cons_of_mem _ hm)) (fun t k hk n' cs' hm=>by
    simp only[Dq,AI] at hk
    split at hk
    ·rename_i e
     subst e
     simp only[if_true]
     intro e'
     have e2:=hinj n cs n' cs' List.mem_cons_self (List.mem_cons_of_mem _ hm) e'
     subst e2
     -- the same name once more
     have:∀ {D:List Nat} {L:AM} {l:List (Nat × List CV)},n∈D→(n,cs')∈l→Hq τ D l L=true→False:=by
      intro D L l
      induction l generalizing D L with
      | nil=>intro _ hm;cases hm
      | cons y l ih =>
       intro hD hm hok
       obtain⟨n0,c0⟩:=y
       simp only[Hq,Bool.and_eq_true,decide_eq_true_eq,Bool.not_eq_true'] at hok
       rcases List.mem_cons.1 hm with e | hm
       ·injection e with e1 e2;subst e1
        have:=hok.1.2.2.2.2
        rw[List.contains_iff_mem.2 hD] at this;cases this
       ·exact ih (List.mem_cons_of_mem _ hD) hm hok.2
     exact this List.mem_cons_self hm hok
    ·rename_i e
     have e':t≠rn τ n:=fun e'=>e e'.symm
     simp only[if_neg e']
     exact hne t k hk n' cs' (List.mem_cons_of_mem _ hm)) (fun n1 c1 n2 c2 m1 m2=>hinj n1 c1 n2 c2 (List.mem_cons_of_mem _ m1) (List.mem_cons_of_mem _ m2))
  refine⟨ℓ',g1,fun t k hk=>?_,fun n' hn'=>?_⟩
  ·obtain⟨k1,k2⟩:=g2 t k (hget t k hk)
   exact⟨by rw[k1];simp only[if_neg (hN t k hk)],k2⟩
  ·rcases hn' with hn' | hn'
   ·simp only[MA,Bool.or_eq_true,beq_iff_eq] at hn'
    rcases hn' with rfl | hn'
    ·exact g3 n (.inr List.mem_cons_self)
    ·exact g3 n' (.inl hn')
   ·exact g3 n' (.inr (List.mem_cons_of_mem _ hn'))
theorem AEY {o:Oper} {k:Nat} {ls:List Nat} {d:AV} {m1:Mem} (hr:BP P fr ℓ ρ c L env m) (hg:swG ls k L o.op=true) (h:(Bh o.op || AAu o.op)=true→aop P o.op env m=some (d,m1)):Gw P (swD ls) k o env m d m1:=by
 intro a b hab
 unfold swD at hab
 split at hab
 ·split at hab
  ·rename_i x y hxy
   injection hab with hab;injection hab with ha hb;subst ha hb
   simp only[swG,Bool.and_eq_true,Bool.or_eq_true,Bool.not_eq_true',beq_eq_false_iff_ne] at hg
   have st:∀ {t A x},o.op=.store t A x→d=.undef∧∃ p y,BF env A=some p∧BF env x=some y∧FL P m t p y=some m1:=by
    intro t A x e
    have ho:aop P o.op env m=some (d,m1):=h (by rw[e];rfl)
    rw[e] at ho
    obtain⟨p,h1,ho⟩:=AE ho
    obtain⟨y,h2,ho⟩:=AE ho
    obtain⟨m2,h3,ho⟩:=DU ho
    injection ho with h4 h5
    subst h5
    exact⟨h4.symm,p,y,h1,h2,h3⟩
   refine⟨fun hk=>?_,fun hk=>?_⟩
   ·have hrow:OT L o.op=true:=hg.1.resolve_left (fun hne=>hne (by omega))
    cases hoo:o.op <;> rw[hoo] at hrow <;> simp only[OT] at hrow <;> try cases hrow
    rename_i t A x
    split at hrow
    ·rename_i i s j off hA
     obtain⟨_,⟨av,q1,q2⟩,_⟩:=hr.levalA hA
     obtain⟨id,q3,q4⟩:=q2
     obtain⟨hd,p,y,g1,g2,g3⟩:=st hoo
     rw[q1] at g1;injection g1 with g1;subst g1;subst q4
     exact⟨hd,t,A,x,id,_,y,hoo,q1,g2,g3⟩
    ·cases hrow
   ·have hbox:Ob L o.op=true:=hg.2.resolve_left (fun hne=>hne (by omega))
    cases hoo:o.op <;> rw[hoo] at hbox <;> simp only[Ob] at hbox <;> try cases hbox
    rename_i t A x
    split at hbox
    ·rename_i n off hA
     obtain⟨_,⟨av,q1,q2⟩,_⟩:=hr.levalA hA
     obtain⟨hd,p,y,g1,g2,g3⟩:=st hoo
     rw[q1] at g1;injection g1 with g1;subst g1
     have q4:av=.ptr (ℓ n) off:=q2
     subst q4
     exact⟨hd,t,A,x,ℓ n,off,y,hoo,q1,g2,g3⟩
    ·cases hbox
  ·cases hab
 ·cases hab
theorem GG.run {ops:Array Oper} {pr:Nat × List Nat} {n:Nat} {Q:AM→Prop}:∀ (l:List Oper) (k:Nat) (pend:List Nat) (prl:List (Oper × List AV × AV)) (fr:Fro) (ℓ:Nat→Nat) (ρ:Nat→Own) (L:AM) (env:List AV) (m:Mem),env.length=n→BP P fr ℓ ρ c L env m→TM P ℓ L m pend prl→Zh n l →
  GG P pr Q k (HN ops l) pend L→∃ env' m',GC P ops pr.1 pr.2 k l prl env m env' m'∧UpQ P n c Q env' m':=by
 intro l
 induction l with
 | nil=>intro k pend prl fr ℓ ρ L env m hn hr hi hd h;exact⟨env,m,.nil k prl env m,hn,L,⟨fr,ℓ,ρ,hr⟩,h⟩
 | cons o l ih =>
  intro k pend prl fr ℓ ρ L env m hn hr hi hd h
  have hdo:Hj env o.dst:=fun t ht=>by rw[hn];exact hd o List.mem_cons_self t ht
  have hdl:Zh n l:=fun x hx=>hd x (List.mem_cons_of_mem _ hx)
  simp only[HN,GG] at h
  unfold lgo at h
  split at h
  ·rename_i hw
   have hw':=UA hr hw
   obtain⟨hlt0,h⟩:=h
   simp only[Bool.and_eq_true] at hlt0
   obtain⟨hlt,hsw⟩:=hlt0
   -- one more
   have go:∀ {d:AV} {m1:Mem} {fr':Fro} {ℓ':Nat→Nat} {ρ':Nat→Own} {v:LV} {L1:AM} {pd:List Nat},AOp P o env m d m1→((Bh o.op || AAu o.op)=true→aop P o.op env m=some (d,m1))→BP P fr' ℓ' ρ' c (FR L1 o.dst v) (DS env o.dst d) m1→(decide (k<pr.1)=true→Ext m m1)→(k∈pr.2→m1=m) →
     TM P ℓ' (FR L1 o.dst v) m1 (pd++pend) (if k∈pr.2 then(o,env,d) :: prl else prl)→(Bh o.op=true→k ∉ pr.2)→GG P pr Q (k+1) (HN ops l) (pd++pend) (FR L1 o.dst v)→∃ env' m',GC P ops pr.1 pr.2 k (o :: l) prl env m env' m'∧UpQ P n c Q env' m':=by
    intro d m1 fr' ℓ' ρ' v L1 pd h1 h2 h3 h4 h5 h6 h7 h8
    obtain⟨env',m',g1,g2⟩:=ih (k+1) _ _ fr' ℓ' ρ' _ _ m1 (by rw[Yr];exact hn) h3 h6 hdl h8
    cases hpu:Bh o.op with
    | true =>
     rw[if_neg (h7 hpu)] at g1
     exact⟨env',m',.pure hw' hpu (h2 (by rw[hpu];rfl)) g1,g2⟩
    | false =>
     refine⟨env',m',.loud hw' hpu h1 (fun hk=>h4 (by simpa using hk)) h5 (AEY hr hsw h2) (fun x hx=>?_) g1,g2⟩
     exact h6.aop x (by split;exact List.mem_cons_of_mem _ hx;exact hx)
   have plain:Gj (lop P o.op o.dst (Uh pr k pend) L) (fun v L1 pd=>GG P pr Q (k+1) (HN ops l) (pd++pend) (FR L1 o.dst v))→∃ env' m',GC P ops pr.1 pr.2 k (o :: l) prl env m env' m'∧UpQ P n c Q env' m':=by
    clear h
    intro h
    unfold Gj at h
    split at h
    ·rename_i v L1 pd hop
     obtain⟨d,m1,fr',ℓ',ρ',g1,g2,g3,g4,g5⟩:=ALT hr hop hdo
     have hst:=hi.step (dst:=o.dst) (v:=v) (L1:=L1) g4
     cases hil:LI o.op with
     | false =>
      have hk:k ∉ pr.2:=by
       intro hk
       have hlt':(!pr.2.contains k || LI o.op)=true:=hlt
       rw[hil,List.contains_iff_mem.2 hk] at hlt';cases hlt'
      have:=AKF hop hil
      subst this
      exact go (JN g1) (fun _=>g1) g2 g3 (fun hk'=>absurd hk' hk) (by rw[if_neg hk];exact hst) (fun _=>hk) h
     | true =>
      obtain⟨t,a,hta⟩:∃ t a,o.op=.load t a:=by
       cases hoo:o.op <;> rw[hoo] at hil <;> first | exact⟨_,_,rfl⟩ | cases hil
      obtain⟨e1,e2,e3,g6,g7⟩:=g5 t a hta
      subst e1 e2 e3
      have hnp:Bh o.op=false:=by rw[hta];rfl
      have hloc:∀ t'∈pd++pend,∃ cs,AI (FR L1 o.dst v).N t'=some cs:=by
       intro t' ht'
       rw[Eu]
       rcases List.mem_append.1 ht' with h1 | h1
       ·exact g7 t' h1
       ·exact hi.1 t' h1
      have old:∀ x∈prl,∃ t a p,x.1.op=.load t a∧BF x.2.1 a=some p∧Fo P m1 t p=some x.2.2∧((∃ e off,p=.eptr e off)∨∃ t' off,t'∈pd++pend∧p=.ptr (ℓ' t') off):=by
       intro x hx
       obtain⟨t,a,p,k1,k2,k3,k4⟩:=hst.2 x hx
       exact⟨t,a,p,k1,k2,k3,k4.imp id fun ⟨t',off,k5,k6⟩=>⟨t',off,List.mem_append_right _ k5,k6⟩⟩
      refine go (JN g1) (fun _=>g1) g2 g3 (fun _=>rfl) ⟨hloc,fun x hx=>?_⟩ (fun hp=>by rw[hnp] at hp;cases hp) h
      by_cases hk:k∈pr.2
      ·rw[if_pos hk] at hx
       rcases List.mem_cons.1 hx with rfl | hx
       ·obtain⟨p,k1,k2,k3⟩:=g6 (by simp[Uh,hk])
        exact⟨t,a,p,hta,k1,k2,k3.imp id fun ⟨t',off,k5,k6⟩=>⟨t',off,List.mem_append_left _ k5,k6⟩⟩
       ·exact old x hx
      ·rw[if_neg hk] at hx;exact old x hx
    ·exact h.elim
   obtain⟨dst0,op0,ty0,pos0,after0,guard0⟩:=o
   have bld:∀ (t:TypeId) (ps:Array (Nat × Operand)),op0=.build t ps→∃ env' m',GC P ops pr.1 pr.2 k (⟨dst0,op0,ty0,pos0,after0,guard0⟩ :: l) prl env m env' m'∧UpQ P n c Q env' m':=by
    intro t ps e
    subst e
    simp only[LG,LOp] at h
    unfold Pk at h
    split at h
    ·rename_i x y q hq
     refine plain ?_
     simp only[lop,hq,Option.bind_some]
     exact h
    ·rename_i x y q hn hq
     have hk:k ∉ pr.2:=by
      intro hk
      have hlt':(!pr.2.contains k || false)=true:=hlt
      rw[List.contains_iff_mem.2 hk] at hlt';cases hlt'
     cases hb:Lz P t q with
     | none=>rw[hb] at h;exact h.elim
     | some cs =>
      rw[hb] at h
      obtain⟨d,ρ',g1,g2⟩:=hr.buildB hq hb hdo
      refine go (d:=d) (m1:=m) (fr':=fr) (ℓ':=ℓ) (ρ':=ρ') (v:=.ag cs) (L1:=OU L cs) (pd:=[]) (JN g1) (fun _=>g1) g2 (fun _=>Ext.refl _) (fun hk'=>absurd hk' hk) ?_ (fun _=>hk) h
      rw[if_neg hk]
      exact hi.step (fun t ht ⟨cs,hl⟩=>⟨rfl,rfl,_,by simp only[OU,HY,hl];rfl⟩)
    ·exact h.elim
   cases op0 <;> try exact plain h
   case build t ps=>exact bld t ps rfl
   rename_i cc
   obtain⟨callee,as_,ts⟩:=cc
   cases callee <;> try exact plain h
   rename_i g
   have hk:k ∉ pr.2:=by
    intro hk
    have hlt':(!pr.2.contains k || false)=true:=hlt
    rw[List.contains_iff_mem.2 hk] at hlt';cases hlt'
   simp only[LG,LOp,Ty] at h
   split at h
   ·rename_i x y z fid first cap las h1 h2
    obtain⟨u,hu,h3⟩:=AE h1
    obtain⟨_,⟨fv,hfv,hfr⟩,_⟩:=hr.levalA hu
    have hf:=AEV h3 hfr
    subst hf
    obtain⟨vs,h4,h5⟩:=AE h2
    obtain⟨as',h6,h7⟩:=hr.levalsA (g:=LV.la) (T:=AV.strip) (fun v x y h1 h2=>ANA h1 h2) h4 h5
    have hcall:∀ {r:AV} {m':Mem},EB P fid (LAs.av ℓ (first++las++cap)) m r m'→AOp P ⟨dst0,.call { callee:=.value g,args:=as_,argTypes:=ts },ty0,pos0,after0,guard0⟩ env m r m':=by
     intro r m' hc
     rw[LAs.av_append,LAs.av_append,h7] at hc
     exact .call rfl rfl hfv h6 (.of_func hc)
    cases h with
    | plain as0 r ha hfn hkk =>
     have hc:=hfn m
     rw[← LAs.av_val ha (ℓ:=ℓ)] at hc
     refine go (d:=r) (m1:=m) (fr':=fr) (ℓ':=ℓ) (ρ':=ρ) (v:=.v r) (L1:=L) (pd:=[]) (hcall hc) (fun hp=>by cases hp) (hr.put (v:=.v r) rfl (fun i s es hh=>hh.elim) hdo) (fun _=>Ext.refl _) (fun _=>rfl) ?_ (fun hp=>by cases hp) hkk
     rw[if_neg hk]
     exact hi.step (fun t ht hl=>⟨rfl,rfl,hl⟩)
    | vars σ τ N N' args' r hfb ha hσ hτ hro hN hv he hp hkk =>
     have hheld:=hr.held.view hσ hτ hv
     obtain⟨m',ρ',hc,hh,hst⟩:=hfb m _ _ hr.mode hheld
     rw[← LAs.av_ren,← ha] at hc
     obtain⟨hrel,hbox⟩:=hr.vars hN hτ hro hv hh hst
     refine go (d:=r) (m1:=m') (fr':=fr) (ℓ':=ℓ) (v:=.v r) (L1:=EO τ (killAll L (Do σ++GL N')) N') (pd:=[]) (hcall hc) (fun hp=>by cases hp) (hrel.put (v:=.v r) rfl (fun i s es hh=>hh.elim) hdo) (fun hearly=>?_) (fun hk'=>absurd hk' hk) ?_ (fun hp=>by cases hp) hkk
     ·obtain⟨e1,e2⟩:=he hearly
      refine hst.ext hr.mode e1 (fun id x hx=>hst.rframe id x hx (fun i s es hi=>?_))
      obtain⟨t,cs,k1,k2⟩:=hi
      have:=LH k1 k2
      rw[e2] at this;cases this
     ·rw[if_neg hk]
      refine hi.step (fun t ht ⟨cs,hl⟩=>⟨rfl,hbox t cs hl (fun n0 k0 hk0 hlt0 e=>PI hp n0 k0 hk0 hlt0 (by rw[e];exact ht)),?_⟩)
      exact VJ ⟨_,by rw[HY,hl];rfl⟩
    | res σ τ N N' args' rs hfr0 ha hσ hτ hro hN hv hrok he hp hkk =>
     have hheld:=hr.held.view hσ hτ hv
     obtain⟨m',ρ',a0,hc,hsr,hlocs,htok,hap,hst,hrl⟩:=hfr0 m _ _ hr.mode hheld
     rw[← LAs.av_ren,← ha] at hc
     have hmem:∀ i s es,JQ N' rs i s es→i∈GL N'++rs.toks:=by
      rintro i s es (⟨t,cs,k1,k2⟩ | k1)
      ·exact List.mem_append_left _ (LH k1 k2)
      ·exact List.mem_append_right _ (LV.toks_mem k1)
     obtain⟨hrel,hbox,hcross,hrl2,hvis⟩:=hr.varsT (T':=JQ N' rs) (ks2:=GL N'++rs.toks) hN hτ hro hv (fun i s es h=>.inl h) hmem hlocs htok hap hst hrl
     have hput:=hrel.putNew (dst:=dst0) (v:=rs) (a:=a0) (hsr.move hrok (fun i s es hh=>if_pos (hmem i s es (.inr hh)))) (fun i s es hh=>by
       have:=htok i s es (.inr hh)
       simp only[if_pos (hmem i s es (.inr hh))];exact this) (fun i s es j s' es' h1 h2 hne=>by
       simp only[if_pos (hmem i s es (.inr h1)),if_pos (hmem j s' es' (.inr h2))]
       exact hap i s es j s' es' (.inr h1) (.inr h2) hne) (fun i s es j s' es' h1 h2 hne=>by
       simp only[if_pos (hmem i s es (.inr h1))]
       rcases hvis j s' es' h2 with⟨k1,k2⟩|⟨k1,k2,k3⟩
       ·simp only[if_pos k2];exact hap i s es j s' es' (.inr h1) k1 hne
       ·simp only[if_neg k3];exact hcross i s es j s' es' (.inr h1) k1 k2) (fun i s es hh id hid=>by
       simp only[if_pos (hmem i s es (.inr hh))] at hid
       exact hrl2 i s es (.inr hh) id hid) hdo
     refine go (d:=a0) (m1:=m') (fr':=fr) (ℓ':=ℓ) (v:=rs) (L1:=EO τ (killAll L (Do σ++(GL N'++rs.toks))) N') (pd:=[]) (hcall hc) (fun hp=>by cases hp) hput (fun hearly=>?_) (fun hk'=>absurd hk' hk) ?_ (fun hp=>by cases hp) hkk
     ·obtain⟨e1,e2⟩:=he hearly
      refine hst.ext hr.mode e1 (fun id x hx=>hst.rframe id x hx (fun i s es hi=>?_))
      obtain⟨t,cs,k1,k2⟩:=hi
      have:=LH k1 k2
      rw[e2] at this;cases this
     ·rw[if_neg hk]
      refine hi.step (fun t ht ⟨cs,hl⟩=>⟨rfl,hbox t cs hl (fun n0 k0 hk0 hlt0 e=>PI hp n0 k0 hk0 hlt0 (by rw[e];exact ht)),?_⟩)
      exact VJ ⟨_,by rw[HY,hl];rfl⟩
    | iter as0 xs ha hfi hkk =>
     obtain⟨fi,first',cap',m',fr2,hc,hext,g1,g2,g3⟩:=hfi m
     rw[← LAs.av_val ha (ℓ:=ℓ)] at hc
     have hrel:=hr.grow hext g1 g3
     refine go (d:=.func fi first' cap') (m1:=m') (fr':=fr2++fr) (ℓ':=ℓ) (ρ':=ρ) (v:=.iter xs) (L1:=L) (pd:=[]) (hcall hc) (fun hp=>by cases hp) (hrel.put (v:=.iter xs) ⟨fi,first',cap',rfl,g2.mono fun m hm q hq=>hm q (List.mem_append_left _ hq)⟩ (fun i s es hh=>hh.elim) hdo) (fun _=>hext) (fun hk'=>absurd hk' hk) ?_ (fun hp=>by cases hp) hkk
     rw[if_neg hk]
     exact hi.step (fun t ht ⟨cs,hl⟩=>⟨rfl,by
      obtain⟨as1,k1,_⟩:=hr.locs t cs hl
      rw[k1];exact hext.get k1,cs,hl⟩)
    | new τ Nn res v hfn hb hres hkk =>
     obtain⟨m',ℓc,a,hc,hext,hs,hl,hinj⟩:=hfn m ℓ hr.mode
     have hget:∀ n cs,(n,cs)∈Nn→AI Nn n=some cs:=AB4 hb
     have hrel:BP P fr ℓ ρ c L env m':=by simpa using hr.grow hext (fr2:=[]) (fun q hq=>by cases hq) (fun q hq=>by cases hq)
     obtain⟨ℓ',hrel2,hold,hnew⟩:=hrel.bindN (ℓc:=ℓc) hb (fun n hn=>by cases hn) (fun n cs hm=>by
       obtain⟨k1,b,k2,k3⟩:=hl n cs (hget n cs hm)
       refine⟨Nat.le_trans hr.len.1 k1,fun q hq e=>?_,b,k2,k3⟩
       have:=(List.getElem?_eq_some_iff.1 (hr.froz.1 q hq)).1
       omega) (fun t k hk n cs hm e=>by
       obtain⟨k1,_⟩:=hl n cs (hget n cs hm)
       have:=hr.boxLt hk
       omega) (fun n cs n' cs' h1 h2 e=>hinj n n' cs cs' (hget n cs h1) (hget n' cs' h2) e)
     have hsr:BK P fr ℓ' ρ v a∧∀ i s es,¬ v.has i s es:=by
      cases res with
      | v x=>simp only[Sg] at hres;injection hres with hres;subst hres;exact⟨hs,fun i s es hh=>hh⟩
      | lref t off =>
       simp only[Sg] at hres
       split at hres
       ·rename_i hn
        injection hres with hres;subst hres
        simp only[BK] at hs ⊢
        exact⟨by rw[hnew _ (.inl hn)];exact hs,fun i s es hh=>hh⟩
       ·cases hres
      | mref t =>
       simp only[Sg] at hres
       split at hres
       ·rename_i hn
        injection hres with hres;subst hres
        simp only[BK] at hs ⊢
        exact⟨by rw[hnew _ (.inl hn)];exact hs,fun i s es hh=>hh⟩
       ·cases hres
      | _=>simp only[Sg] at hres;cases hres
     refine go (d:=a) (m1:=m') (fr':=fr) (ℓ':=ℓ') (ρ':=ρ) (v:=v) (L1:=G.bindN τ Nn L) (pd:=[]) (hcall hc) (fun hp=>by cases hp) (hrel2.put (v:=v) hsr.1 (fun i s es hh=>(hsr.2 i s es hh).elim) hdo) (fun _=>hext) (fun hk'=>absurd hk' hk) ?_ (fun hp=>by cases hp) hkk
     rw[if_neg hk]
     exact hi.step (fun t ht ⟨cs,hl⟩=>⟨(hold t cs hl).1,by
      obtain⟨as1,k1,_⟩:=hr.locs t cs hl
      rw[k1];exact hext.get k1,(hold t cs hl).2⟩)
   ·rename_i x y z fid bs h1 hn h2
    obtain⟨u,hu,h3⟩:=AE h1
    obtain⟨_,⟨fv,hfv,hfr⟩,_⟩:=hr.levalA hu
    have hf:=AEV h3 hfr
    subst hf
    obtain⟨r,hfn,hfl,hsc,hkk⟩:=h
    obtain⟨as',h6,h7,h8⟩:=hr.lArgsF h2 hfl
    have hc:EB P fid (as'.map AV.strip) m r m:=hfn.read hsc h7 h8
    have hop:AOp P ⟨dst0,.call { callee:=.value g,args:=as_,argTypes:=ts },ty0,pos0,after0,guard0⟩ env m r m:=.call rfl rfl hfv h6 (.of_func (by simpa [LAs.av] using hc))
    refine go (d:=r) (m1:=m) (fr':=fr) (ℓ':=ℓ) (ρ':=ρ) (v:=.v r) (L1:=L) (pd:=[]) hop (fun hp=>by cases hp) (hr.put (v:=.v r) rfl (fun i s es hh=>hh.elim) hdo) (fun _=>Ext.refl _) (fun _=>rfl) ?_ (fun hp=>by cases hp) hkk
    rw[if_neg hk]
    exact hi.step (fun t ht hl=>⟨rfl,rfl,hl⟩)
   ·exact h.elim
  ·rename_i hw
   have hw':=UA hr hw
   obtain⟨env',m',g1,g2⟩:=ih (k+1) pend prl fr ℓ ρ _ _ m (by rw[Yr];exact hn) (hr.put (v:=.v .undef) (a:=.undef) rfl (fun i s es hh=>hh.elim) hdo) (hi.step (fun t ht hl=>⟨rfl,rfl,hl⟩)) hdl h
   exact⟨env',m',.skip hw' g1,g2⟩
  ·exact h.elim
theorem AGS {all:Code} {n id:Nat} {ops:Array Oper} {draw:Bool} (h:okL all n (.region id ops draw)=true):Zh n ops.toList:=by
 intro o ho t ht
 simp only[okL,Bool.and_eq_true] at h
 have:=List.all_eq_true.1 h.1 o ho
 rw[ht] at this
 simpa using this
theorem LC.exec (hmix:P.follows .mixedOrders=true):∀ {cc:Code} {k:Nat} {Q:Exit→AM→Prop} {L:AM} {env:List AV} {m:Mem},env.length=BN P f→Rel P c L env m→okL (Cd P f) (BN P f) cc=true→(∀ i,i<BH cc→(At cc)[i]?=(At (Cd P f))[k+i]?)→LC P f lo c (Dk k cc) Q L →
  ∃ x env' m',Bu P lo cc env m x env' m'∧UpQ P (BN P f) c (Q x) env' m':=by
 intro cc
 induction cc with
 | skip=>intro k Q L env m hn hr hd hp h;exact⟨_,env,m,.skip env m,hn,L,hr,h⟩
 | exit id=>intro k Q L env m hn hr hd hp h;exact⟨_,env,m,.exit id env m,hn,L,hr,h⟩
 | ret=>intro k Q L env m hn hr hd hp h;exact⟨_,env,m,.ret env m,hn,L,hr,h⟩
 | seq a b iha ihb =>
  intro k Q L env m hn hr hd hp h
  simp only[okL,Bool.and_eq_true] at hd
  have hla:=Eh a
  obtain⟨x,env1,m1,h1,h2,L1,h3,h4⟩:=iha (k:=k) hn hr hd.1 (fun i hi=>by
   have:=hp i (by simp[BH];omega)
   simp only[At] at this
   rwa [List.getElem?_append_left (by omega)] at this) h
  cases x with
  | normal =>
   obtain⟨y,env2,m2,h5,h6⟩:=ihb (k:=k+BH a) h2 h3 hd.2 (fun i hi=>by
    have:=hp (BH a+i) (by simp[BH];omega)
    simp only[At] at this
    rw[List.getElem?_append_right (by omega),hla] at this
    rw[show BH a+i - BH a=i from by omega] at this
    rw[this];congr 1;omega) h4
   exact⟨y,env2,m2,h1.seq h5,h6⟩
  | _=>exact⟨_,env1,m1,h1.seq_out (by simp),h2,L1,h3,h4⟩
 | cond cd a b iha ihb =>
  intro k Q L env m hn hr hd hp h
  simp only[okL,Bool.and_eq_true] at hd
  have hla:=Eh a
  cases cd with
  | tmp t =>
   simp only[Dk,LC] at h
   have key:∀ x,AI L.S t=some (.v x)→env[t]?=some x:=by
    intro x hx
    obtain⟨fr,ℓ,ρ,hr⟩:=hr
    obtain⟨b,h1,h2⟩:=hr.slot t _ hx (by simp)
    simp only[BK] at h2;subst h2;exact h1
   unfold YC at h
   split at h
   ·rename_i ht
    obtain⟨x,env1,m1,h1,h2⟩:=iha (k:=k) hn hr hd.1 (fun i hi=>by
     have:=hp i (by simp[BH];omega)
     simp only[At] at this
     rwa [List.getElem?_append_left (by omega)] at this) h
    exact⟨x,env1,m1,Bu.cond (b:=true) rfl (key _ ht) h1,h2⟩
   ·rename_i ht
    obtain⟨x,env1,m1,h1,h2⟩:=ihb (k:=k+BH a) hn hr hd.2 (fun i hi=>by
     have:=hp (BH a+i) (by simp[BH];omega)
     simp only[At] at this
     rw[List.getElem?_append_right (by omega),hla] at this
     rw[show BH a+i - BH a=i from by omega] at this
     rw[this];congr 1;omega) h
    exact⟨x,env1,m1,Bu.cond (b:=false) rfl (key _ ht) h1,h2⟩
   ·exact h.elim
  | _=>exact h.elim
 | block id c0 ih =>
  intro k Q L env m hn hr hd hp h
  obtain⟨x,env1,m1,h1,h2⟩:=ih (k:=k) hn hr hd (fun i hi=>hp i hi) h
  exact⟨_,env1,m1,h1.block,h2⟩
 | scope c0 ih =>
  intro k Q L env m hn hr hd hp h
  obtain⟨x,env1,m1,h1,h2,L1,h3,h4,h5⟩:=ih (k:=k) hn hr hd (fun i hi=>hp i hi) h
  exact⟨_,env1,m1,h1.scope h4,h2,L1,h3,h5⟩
 | label l=>intro k Q L env m hn hr hd hp h;exact⟨_,env,m,.label l env m,hn,L,hr,h⟩
 | loop c0 ih =>
  intro k Q L env m hn hr hd hp h
  have h0:=hp 0 (by simp[BH])
  simp only[At,List.getElem?_cons_zero,Nat.add_zero] at h0
  have e0:Bm P f k=c0:=by simp[Bm,← h0]
  have h1:=h env m hn hr
  rw[e0] at h1
  obtain⟨x,env1,m1,h1,h2⟩:=h1
  exact⟨x,env1,m1,.loop h1,h2⟩
 | region id ops draw =>
  intro k Q L env m hn hr hd hp h
  have hds:=AGS hd
  obtain⟨fr,ℓ,ρ,hr⟩:=hr
  cases draw with
  | false =>
   obtain⟨env',m',h1,h2⟩:=GG.run ops.toList 0 [] [] fr ℓ ρ L env m hn hr ⟨fun t ht=>(by cases ht),fun x hx=>(by cases hx)⟩ hds h
   exact⟨_,env',m',.region h1.aops,h2⟩
  | true =>
   simp only[okL,Bool.and_eq_true,Bool.not_true,Bool.false_or,decide_eq_true_eq] at hd
   obtain⟨_,⟨hd1,hd2⟩,hd3⟩:=hd
   have e1:lrp P f id=lp ops:=by simp[lrp,hd1]
   have h':GG P (lrp P f id) (Q .normal) 0 (HN ops ops.toList) [] L:=h
   rw[e1] at h'
   obtain⟨env',m',h1,h2⟩:=GG.run ops.toList 0 [] [] fr ℓ ρ L env m hn hr ⟨fun t ht=>(by cases ht),fun x hx=>(by cases hx)⟩ hds h'
   exact⟨_,env',m',.drawL hmix hd3 hd2 h1,h2⟩
 | rangeFunc g ps a b iha ihb =>
  intro k Q L env m hn hr hd hp h
  have h0:=hp 0 (by simp[BH])
  have h1:=hp (BH a+1) (by simp[BH];omega)
  simp only[At,List.getElem?_cons_zero,Nat.add_zero,List.getElem?_cons_succ] at h0 h1
  rw[List.getElem?_append_right (by rw[Eh];exact Nat.le_refl _),Eh,Nat.sub_self,List.getElem?_cons_zero] at h1
  have e0:Bm P f k=a:=by simp[Bm,← h0]
  have e1:Bm P f (k+1+BH a)=b:=by rw[show k+(BH a+1)=k+1+BH a from by omega] at h1;simp[Bm,← h1]
  have h2:=h env m hn hr
  rw[e0,e1] at h2
  exact h2
 | _=>intro k Q L env m hn hr hd hp h;exact h.elim
omit [Mu] in
def Lx (fn:Func) (k:Nat):Bool:=decide (k<BH (Bl fn))&&okL (Bl fn) fn.ntmps (Er fn k)
theorem AJ.step {fn:Func} (hmix:P.follows .mixedOrders=true) (hf:P.funcs[f]?=some fn)  {k:Nat} {Q:Exit→AM→Prop} {L:AM} (hd:Lx fn k=true)
  (h:LC P f lo c (Dk (k+1) (Er fn k)) (RI (AJ P f lo c k Q) Q) L):AJ P f lo c k Q L:=by
 intro env m hn hr
 simp only[Lx,Bool.and_eq_true,decide_eq_true_eq] at hd
 have hbo:Cd P f=Bl fn:=by simp[Cd,Bl,hf]
 have e1:Bm P f k=Er fn k:=by simp[Bm,Er,hbo]
 have e2:fn.ntmps=BN P f:=by simp[BN,hf]
 rw[← e1,e2,← hbo] at hd
 rw[← e1] at h
 have h0:(At (Cd P f))[k]?=some (Bm P f k):=by
  have h1:k<(At (Cd P f)).length:=by rw[Eh];exact hd.1
  simp[Bm,List.getElem?_eq_getElem h1]
 obtain⟨x,env1,m1,h1,h2,L1,h3,h4⟩:=LC.exec hmix hn hr hd.2 (fun i hi=>KB h0 i hi) h
 cases x with
 | normal =>
  obtain⟨y,env2,m2,h5,h6⟩:=h4 env1 m1 h2 h3
  exact⟨y,env2,m2,Kp.round h1 h5,h6⟩
 | _=>exact⟨_,env1,m1,.out h1 (by simp),h2,L1,h3,h4⟩
end
end
section
def Oh:Nat→List AV→List (Nat × LV)
 | _,[]=>[]
 | k,a :: l=>(k,.v a) :: Oh (k+1) l
def vw (σ:List (Nat × Option Nat)):Option LV→LV→Prop
 | some (.v a),.v b=>a=b
 | some (.own i s es),.own j s' es'=>sg σ j=some i∧s=s'∧es=es'
 | some (.v a),.own j _ es=>sg σ j=none∧a=.slice .full es∧(isV j=true→es=[]∧isB j=false)
 | some (.ag cs),.ag ds=>Oc σ [] cs ds
 | some (.lref t o),.lref t' o'=>t=t'∧o=o'
 | some (.mref t),.mref t'=>t=t'
 | some (.fn f a b),.fn f' a' b'=>f=f'∧a=a'∧b=b'
 | some (.iter xs),.iter ys=>xs=ys
 | _,_=>False
def vwS (σ:List (Nat × Option Nat)) (S:List (Nat × LV)):List (Nat × LV)→Prop
 | []=>True
 | (t,v) :: l=>vw σ (AI S t) v∧vwS σ S l
def isSome {α:Type}:Option α→Bool
 | some _=>true
 | none=>false
def keepB (N':List (Nat × List CV)):List (Nat × List CV)→Bool
 | []=>true
 | (t,_) :: l=>(decide (t<2000000) || isSome (AI N' t))&&keepB N' l
def RD (σ:List (Nat × Option Nat)) (L L':AM):Prop:=(FN σ&&(JZ [] L'.N&&keepB L'.N L.N))=true∧vwN σ [] L.N L'.N∧vwS σ L.S L'.S
variable [Mu]
section
variable {P:Program} {fr:Fro} {ℓ:Nat→Nat} {ρ:Nat→Own} {c:FM} {L:AM} {env:List AV} {m:Mem} {f:FuncId} {lo:Option Nat} {σ:List (Nat × Option Nat)}
theorem AIN:∀ {S' S:List (Nat × LV)},vwS σ S S'→∀ t v,AI S' t=some v→vw σ (AI S t) v:=by
 intro S'
 induction S' with
 | nil=>intro S _ t v h;cases h
 | cons x l ih =>
  obtain⟨t0,v0⟩:=x
  intro S h t v hv
  simp only[AI] at hv
  split at hv
  ·rename_i e;subst e;injection hv with hv;subst hv;exact h.1
  ·exact ih h.2 t v hv
theorem ACN {N':List (Nat × List CV)}:∀ {N:List (Nat × List CV)},keepB N' N=true→∀ t cs,AI N t=some cs→2000000≤t→∃ cs',AI N' t=some cs':=by
 intro N
 induction N with
 | nil=>intro _ t cs h;cases h
 | cons x l ih =>
  obtain⟨t0,c0⟩:=x
  intro h t cs hc hlt
  simp only[keepB,Bool.and_eq_true,Bool.or_eq_true,decide_eq_true_eq] at h
  simp only[AI] at hc
  split at hc
  ·rename_i e;subst e
   rcases h.1 with h1 | h1
   ·omega
   ·unfold isSome at h1;split at h1
    ·exact⟨_,by assumption⟩
    ·cases h1
  ·exact ih h.2 t cs hc hlt
theorem Rel.view {L':AM} (h:Rel P c L env m) (hv:RD σ L L'):Rel P c L' env m:=by
 obtain⟨fr,ℓ,ρ,h⟩:=h
 obtain⟨hk,hN,hS⟩:=hv
 simp only[Bool.and_eq_true] at hk
 obtain⟨hσ,hrn,hk⟩:=hk
 have hg:=AIN hS
 have was':∀ j s es,Vis L' j s es→(sg σ j=none∧(isV j=true→es=[]))∨∃ i,sg σ j=some i∧Vis L i s es:=by
  rintro j s es (⟨t,v,h1,h2⟩ | h1)
  ·have h3:=hg t v h1
   cases v with
   | own j' s' es' =>
    obtain⟨rfl,rfl,rfl⟩:=h2
    cases hl:AI L.S t with
    | none=>rw[hl] at h3;exact h3.elim
    | some u =>
     rw[hl] at h3
     cases u <;> simp only[vw] at h3
     ·exact .inl ⟨h3.1,fun hv=>(h3.2.2 hv).1⟩
     ·obtain⟨g1,rfl,rfl⟩:=h3;exact .inr ⟨_,g1,.inl ⟨t,_,hl,rfl,rfl,rfl⟩⟩
   | ag ds =>
    cases hl:AI L.S t with
    | none=>rw[hl] at h3;exact h3.elim
    | some u =>
     rw[hl] at h3
     cases u <;> simp only[vw] at h3
     exact(Yc h3 h2).imp id fun ⟨i,g1,g2⟩=>⟨i,g1,.inl ⟨t,_,hl,g2⟩⟩
   | _=>exact h2.elim
  ·exact(MC hN h1).imp id fun ⟨i,g1,g2⟩=>⟨i,g1,g2.vis⟩
 have was:∀ j s es,Vis L' j s es→sg σ j=none∨∃ i,sg σ j=some i∧Vis L i s es:=fun j s es h=>(was' j s es h).imp (·.1) id
 have hheld:Fs ℓ (vρ σ ρ) m L'.N:=h.held.view (τ:=[]) hσ hrn hN
 have names:∀ t cs,AI L'.N t=some cs→∃ k,AI L.N t=some k:=fun t cs h1=>let ⟨k,h2,_⟩:=Hs hN t cs h1;⟨k,h2⟩
 refine⟨fr,ℓ,vρ σ ρ,h.mode,fun t v h1 h2=>?_,hheld.locs,fun j s es hj=>?_,fun j s es k s' es' h1 h2 hne=>?_,hheld.inj,fun p hp=>?_,fun t cs h1=>?_,fun j s es hj id hid=>?_,h.len,h.frame,h.rframe,h.froz.1,fun q hq t cs h1=>?_⟩
 ·have h3:=hg t v h1
  cases hl:AI L.S t with
  | none=>rw[hl] at h3;exact h3.elim
  | some u =>
   rw[hl] at h3
   have hnd:u≠.dead:=by rintro rfl;cases v <;> exact h3.elim
   obtain⟨a,h4,h5⟩:=h.slot t u hl hnd
   refine⟨a,h4,?_⟩
   cases u with
   | v x =>
    cases v <;> simp only[vw] at h3
    ·subst h3;exact h5
    ·simp only[BK] at h5 ⊢;rw[h5,h3.2.1];simp only[vρ,h3.1];rw[Ol (fun hv=>(h3.2.2 hv).2)]
   | own i s es =>
    cases v <;> simp only[vw] at h3
    obtain⟨g1,rfl,rfl⟩:=h3
    simp only[BK] at h5 ⊢;rw[h5,Lh (HV hσ _ _ g1)];simp[vρ,g1]
   | ag cs =>
    cases v <;> simp only[vw] at h3
    obtain⟨as_,g1,g2⟩:=h5
    exact⟨as_,g1,Zf (τ:=[]) hσ h3 g2⟩
   | lref t' o =>
    cases v <;> simp only[vw] at h3
    obtain⟨rfl,rfl⟩:=h3
    exact h5
   | mref t' =>
    cases v <;> simp only[vw] at h3
    subst h3
    exact h5
   | fn g a b =>
    cases v <;> simp only[vw] at h3
    obtain⟨rfl,rfl,rfl⟩:=h3
    exact h5
   | iter xs =>
    cases v <;> simp only[vw] at h3
    subst h3;exact h5
   | vref i s k off=>cases v <;> exact h3.elim
   | vsub i s k n=>cases v <;> exact h3.elim
   | dead=>exact absurd rfl hnd
 ·rcases was' j s es hj with⟨h1,h0⟩|⟨i,h1,h2⟩
  ·simp only[vρ,h1];exact .full h0
  ·simp only[vρ,h1];exact(h.tok i s es h2).kind (HV hσ j i h1)
 ·rcases was j s es h1 with g1 | ⟨i,g1,g2⟩
  ·left;simp only[vρ,g1]
  ·rcases was k s' es' h2 with k1 | ⟨i',k1,k2⟩
   ·simp only[vρ,g1,k1]
    cases hj:ρ i with
    | full=>exact .inl rfl
    | _=>exact .inr (by simp)
   ·simp only[vρ,g1,k1]
    exact h.apart i s es i' s' es' g2 k2 (fun e=>hne (Mf hσ j k i g1 (by rw[k1,e])))
 ·obtain⟨⟨k,h1⟩,h2⟩:=h.bor p hp
  exact⟨ACN hk p.1 k h1 (c.hb p hp),h2⟩
 ·obtain⟨k,h2⟩:=names t cs h1
  exact h.low t k h2
 ·rcases was j s es hj with h1 | ⟨i,h1,h2⟩
  ·simp only[vρ,h1] at hid;cases hid
  ·simp only[vρ,h1] at hid;exact h.rlow i s es h2 id hid
 ·obtain⟨k,h2⟩:=names t cs h1
  exact h.froz.2 q hq t k h2
theorem AJ.view {L':AM} {k:Nat} {Q:Exit→AM→Prop} (σ:List (Nat × Option Nat)) (hv:RD σ L L') (h:AJ P f lo c k Q L'):AJ P f lo c k Q L :=
 fun env m hn hr=>h env m hn (hr.view hv)
def VQ (Q:Exit→AM→Prop) (x:Exit) (L:AM):Prop:=Q x L∨∃ σ L',RD σ L L'∧Q x L'
theorem UpQ.unview {Q:Exit→AM→Prop} {x:Exit} {n:Nat} (h:UpQ P n c (VQ Q x) env m):UpQ P n c (Q x) env m:=by
 obtain⟨h1,L,h2,h3⟩:=h
 rcases h3 with h3 | ⟨σ,L',h3,h4⟩
 ·exact⟨h1,L,h2,h3⟩
 ·exact⟨h1,L',h2.view h3,h4⟩
theorem AJ.viewQ {k:Nat} {Q:Exit→AM→Prop} (h:AJ P f lo c k (VQ Q) L):AJ P f lo c k Q L:=by
 intro env m hn hr
 obtain⟨x,env',m',h1,h2⟩:=h env m hn hr
 exact⟨x,env',m',h1,h2.unview⟩
def Ci (P:Program) (L:AM):ResultVar→Option LV
 | .tmp t=>AI L.S t
 | .cell a t=>match AI L.S a with
  | some (.lref n off)=>(AI L.N n).bind fun cs=>if isMp cs=true then none else VO P t cs off
  | _=>none
def MR (r:AV) (x:Option AV):Prop :=
 match x with
 | some d=>d.fz=r
 | none=>False
def Oj (P:Program) (rs:List ResultVar) (r:AV) (Q:AM→Prop):Exit→AM→Prop
 | .ret,L | .normal,L=>MR r ((rs.mapM fun x=>(Ci P L x).bind LV.rd).map FJ)∧Q L
 | _,_=>False
theorem LC.mono {Q Q':Exit→AM→Prop} (hq:∀ x L,Q x L→Q' x L):∀ {cc:ID} {L:AM},LC P f lo c cc Q L→LC P f lo c cc Q' L:=by
 have hU:∀ {Q Q':AM→Prop} {n:Nat} {env:List AV} {m:Mem},(∀ L,Q L→Q' L)→UpQ P n c Q env m→UpQ P n c Q' env m:=fun h ⟨h1,L,h2,h3⟩=>⟨h1,L,h2,h _ h3⟩
 have hops:∀ {pr:Nat × List Nat} {Q Q':AM→Prop},(∀ L,Q L→Q' L)→∀ (l:List Fc) (k:Nat) (pend:List Nat) (L:AM),GG P pr Q k l pend L→GG P pr Q' k l pend L:=by
  intro pr Q Q' hq l
  induction l with
  | nil=>intro k pend L h;exact hq _ h
  | cons o l ih =>
   intro k pend L h
   simp only[GG] at h ⊢
   unfold lgo at h ⊢
   split at h
   ·refine⟨h.1,?_⟩
    have h:=h.2
    unfold LOp at h ⊢
    split at h
    ·unfold Ty at h ⊢
     split at h
     ·cases h with
      | plain as_ r ha hf hk=>exact .plain as_ r ha hf (ih _ _ _ hk)
      | vars σ τ N N' args' r h1 h2 h3 h4 h5 h6 h7 h8 h9 hk=>exact .vars σ τ N N' args' r h1 h2 h3 h4 h5 h6 h7 h8 h9 (ih _ _ _ hk)
      | res σ τ N N' args' rs h1 h2 h3 h4 h5 h6 h7 h8 h9 h10 hk=>exact .res σ τ N N' args' rs h1 h2 h3 h4 h5 h6 h7 h8 h9 h10 (ih _ _ _ hk)
      | iter as_ xs ha hf hk=>exact .iter as_ xs ha hf (ih _ _ _ hk)
      | new τ Nn rs v hf hb hr hk=>exact .new τ Nn rs v hf hb hr (ih _ _ _ hk)
     ·obtain⟨r,h1,h2,h3,hk⟩:=h;exact⟨r,h1,h2,h3,ih _ _ _ hk⟩
     ·exact h.elim
    ·unfold Pk at h ⊢
     split at h
     ·unfold Gj at h ⊢
      split at h
      ·exact ih _ _ _ h
      ·exact h.elim
     ·unfold Gj at h ⊢
      split at h
      ·exact ih _ _ _ h
      ·exact h.elim
     ·exact h.elim
    ·unfold Gj at h ⊢
     split at h
     ·exact ih _ _ _ h
     ·exact h.elim
   ·exact ih _ _ _ h
   ·exact h.elim
 intro cc
 induction cc generalizing Q Q' with
 | skip=>intro L h;exact hq _ _ h
 | ret=>intro L h;exact hq _ _ h
 | bad=>intro L h;exact h.elim
 | exit id=>intro L h;exact hq _ _ h
 | region d ops =>
  intro L h
  cases d with
  | none=>exact hops (fun L h=>hq _ _ h) _ _ _ _ h
  | some d=>exact hops (fun L h=>hq _ _ h) _ _ _ _ h
 | seq a b iha ihb =>
  intro L h
  refine iha (fun x L hx=>?_) h
  cases x with
  | normal=>exact ihb hq hx
  | _=>exact hq _ _ hx
 | cond t a b iha ihb =>
  intro L h
  simp only[LC,YC] at h ⊢
  split at h
  ·exact iha hq h
  ·exact ihb hq h
  ·exact h.elim
 | block id a ih=>intro L h;exact ih (fun x L h=>hq _ _ h) h
 | scope a ih=>intro L h;exact ih (fun x L h=>⟨h.1,hq _ _ h.2⟩) h
 | loop k =>
  intro L h env m hn hr
  obtain⟨x,env',m',h1,h2⟩:=h env m hn hr
  exact⟨x,env',m',h1,hU (fun L h=>hq _ _ h) h2⟩
 | range g ps k j =>
  intro L h env m hn hr
  obtain⟨x,env',m',h1,h2⟩:=h env m hn hr
  exact⟨x,env',m',h1,hU (fun L h=>hq _ _ h) h2⟩
def DO (P:Program) (rs:List ResultVar) (r:AV) (Q:AM→Prop):Exit→AM→Prop
 | .ret,L | .normal,L=>MR r ((rs.mapM fun x=>(Ci P L x).bind LV.rdF).map FJ)∧Q L
 | _,_=>False
theorem DO.to {rs:List ResultVar} {r:AV} {Q:AM→Prop} {cc:ID} (h:LC P f lo c cc (DO P rs r Q) L):LC P f lo c cc (fun x L=>(x=.ret∨x=.normal)∧MR r ((rs.mapM fun x=>(Ci P L x).bind LV.rdF).map FJ)∧Q L) L:=by
 refine LC.mono (fun x L h=>?_) h
 cases x with
 | ret=>exact⟨.inl rfl,h⟩
 | normal=>exact⟨.inr rfl,h⟩
 | _=>exact h.elim
theorem Oj.to {rs:List ResultVar} {r:AV} {Q:AM→Prop} {cc:ID} (h:LC P f lo c cc (Oj P rs r Q) L):LC P f lo c cc (fun x L=>(x=.ret∨x=.normal)∧MR r ((rs.mapM fun x=>(Ci P L x).bind LV.rd).map FJ)∧Q L) L:=by
 refine LC.mono (fun x L h=>?_) h
 cases x with
 | ret=>exact⟨.inl rfl,h⟩
 | normal=>exact⟨.inr rfl,h⟩
 | _=>exact h.elim
theorem ANR {vs vs':List AV} (hl:vs'.length=vs.length) (h:∀ (j:Nat) (a a':AV),vs[j]?=some a→vs'[j]?=some a'→Fi a a'):(FJ vs').fz=(FJ vs).fz:=by
 have e:vs'.map AV.strip=vs.map AV.strip:=by
  apply List.ext_getElem?;intro j
  simp only[List.getElem?_map]
  rcases Nat.lt_or_ge j vs.length with hj | hj
  ·rw[List.getElem?_eq_getElem hj,List.getElem?_eq_getElem (by omega:j<vs'.length)]
   simp only[Option.map_some]
   rw[(h j _ _ (List.getElem?_eq_getElem hj) (List.getElem?_eq_getElem (by omega))).strip]
  ·rw[List.getElem?_eq_none hj,List.getElem?_eq_none (by omega)]
 match vs,vs',hl with
 | [],[],_=>rfl
 | [a],[a'],_ =>
  have h1:=h 0 a a' rfl rfl
  simp only[FJ]
  cases h1 with
  | refl=>rfl
  | sl o es=>rfl
  | ag cs cs' hl hh=>simp only[AV.fz,AV.strip];rw[Fi.mapStrip hl hh]
 | a :: b :: l,a' :: b' :: l',_ =>
  simp only[FJ,AV.fz]
  rw[e]
theorem Rep.strip1 {g:Gh} {w:World} {a:AV} {v:Value} (h:Rep g w a v):Rep g w a.strip1 v:=by
 cases h with
 | nil own x cap h1 h2=>exact .nil _ _ _ (fun id e=>by cases e) (fun e=>by cases e)
 | slice own es b o cap sz vals hz hs hi hc hr ho hcap hown=>exact .slice .foreign es b o cap sz vals hz hs hi hc hr ho hcap trivial
 | atom v h=>exact .atom v h
 | ptr l off b h=>exact .ptr l off b h
 | yield l b h=>exact .yield l b h
 | map l b h=>exact .map l b h
 | vptr id off a hs hn ha=>exact .vptr id off a hs hn ha
 | vec id off len sz k a cap hs hz hcap hf hn ha=>exact .vec id off len sz k a cap hs hz hcap hf hn ha
 | eptr e off b o vals hi hc hr ho hn=>exact .eptr e off b o vals hi hc hr ho hn
 | func f first cap fs vs h1 h2 h3 h4=>exact .func f first cap fs vs h1 h2 h3 h4
 | iface t x v h=>exact .iface t x v h
 | agg cs vs hl ho hr=>exact .agg cs vs hl ho hr
 | tuple cs vs hl hr=>exact .tuple cs vs hl hr
theorem AB8 (a:AV):a.strip1.one=a.one:=by cases a <;> rfl
theorem Rep.strip {g:Gh} {w:World} {a:AV} {v:Value} (h:Rep g w a v):Rep g w a.strip v:=by
 cases a with
 | agg cs =>
  obtain⟨vs,rfl,⟨h1,h2⟩,h3⟩:=h.agg_inv
  refine .agg _ _ (by simpa using h1) (fun c hc=>?_) (fun j c v hj hv=>?_)
  ·obtain⟨x,hx,rfl⟩:=List.mem_map.1 hc
   rw[AB8];exact h3 x hx
  ·rw[List.getElem?_map] at hj
   obtain⟨x,hx,rfl⟩:=Cr hj
   exact(h2 j x v hx hv).strip1
 | slice o es=>exact h.strip1
 | _=>exact h
theorem Rep.fz {g:Gh} {w:World} {a:AV} {v:Value} (h:Rep g w a v):Rep g w a.fz v:=by
 cases a with
 | tuple cs =>
  generalize hx:AV.tuple cs=x at h
  cases h <;> cases hx
  rename_i vs h1 h2
  refine .tuple _ _ (by simpa using h1) (fun j c v hj hv=>?_)
  rw[List.getElem?_map] at hj
  obtain⟨x,hx,rfl⟩:=Cr hj
  exact(h2 j x v hx hv).strip
 | _=>exact h.strip
theorem ADD (a:AV):a.stripR.fz=a.fz:=by
 cases a with
 | tuple vs =>
  simp only[AV.stripR,AV.fz,List.map_map]
  congr 1
  apply List.map_congr_left
  intro x _
  exact JV x
 | agg cs =>
  simp only[AV.stripR,AV.fz,AV.strip,List.map_map]
  congr 1
  apply List.map_congr_left
  intro x _
  cases x <;> rfl
 | _=>rfl
theorem EB.fz {f:FuncId} {args:List AV} {r:AV} {m':Mem} (h:EB P f args m r m'):EB P f args m r.fz m':=by
 refine⟨h.1,h.2.1,fun g w vs h1 h2 h3=>(h.2.2 g w vs h1 h2 h3).mono ?_⟩
 rintro e w' ⟨v,g',rfl,h4,h5,h6⟩
 exact⟨v,g',rfl,h4,h5,h6.fz⟩
theorem LC.results {fn : Func} {cb : Code} {args : List AV} {r : AV} {Q : AM → Prop} (hmix : P.follows .mixedOrders = true) (hf : P.funcs[f]? = some fn) (hbb : fn.body = some cb) (h2 : (fn.name == "runtime.NumGoroutine") = false) (h3 : okL (Bl fn) fn.ntmps (Bl fn) = true) (ha : args.length ≤ fn.ntmps) {L : AM}
  (hrel:Rel P c L (args++List.replicate (fn.ntmps - args.length) AV.undef) m)
  (h:LC P f none c (Dk 0 (Bl fn)) (fun x L=>(x=.ret∨x=.normal)∧MR r ((fn.results.toList.mapM fun x=>(Ci P L x).bind LV.rd).map FJ)∧Q L) L) :
  ∃ r0 env' m',EB P f args m r0 m'∧r0.fz=r∧(∀ {m1:Mem},Bo r→Frz m1 r0 r)∧∃ L',Rel P c L' env' m'∧Q L':=by
 have e:Bl fn=cb:=by simp[Bl,hbb]
 have e2:Cd P f=cb:=by simp[Cd,hf,hbb]
 have e3:fn.ntmps=BN P f:=by simp[BN,hf]
 rw[e] at h h3
 have hlen:(args++List.replicate (fn.ntmps - args.length) AV.undef).length=BN P f:=by rw[← e3];simp;omega
 obtain⟨x,env',m',g1,g2,L',g3,hx,hfin,hQ⟩:=LC.exec (f:=f) (c:=c) hmix hlen hrel (by rw[e2,← e3];exact h3) (fun i hi=>by rw[e2,Nat.zero_add]) h
 cases hvs:fn.results.toList.mapM fun x=>(Ci P L' x).bind LV.rd with
 | none=>rw[hvs] at hfin;exact hfin.elim
 | some vs =>
  rw[hvs] at hfin
  simp only[Option.map_some,MR] at hfin
  obtain⟨fr,ℓ,ρ,g3⟩:=g3
  have one:∀ (x:ResultVar) (a:AV),(Ci P L' x).bind LV.rd=some a→∃ a',Ej P env' m' x=some a'∧Fi a a':=by
   intro x a hxa
   obtain⟨v,k1,k2⟩:=AE hxa
   cases x with
   | tmp t =>
    simp only[Ci] at k1
    obtain⟨b,k3,k4⟩:=g3.slot t v k1 (by rintro rfl;cases k2)
    exact⟨b,k3,v.rd_rel k2 k4⟩
   | cell q t =>
    simp only[Ci] at k1
    split at k1
    ·rename_i n off hc
     obtain⟨b,k3,k4⟩:=g3.slot q _ hc (by simp)
     simp only[BK] at k4;subst k4
     obtain⟨cs,k5,k6⟩:=AE k1
     split at k6
     ·cases k6
     rename_i hmp
     obtain⟨b,k7,k8⟩:=g3.locs n cs k5
     obtain⟨as_,rfl,k8⟩:=k8.nomp (by simpa using hmp)
     obtain⟨d,k9,k10,_⟩:=RP (P:=P) (fr:=fr) k6 k8
     refine⟨d,?_,LV.rd_rel k2 k10⟩
     simp only[Ej,k3,Option.bind_some,Fo,k7,k9]
    ·cases k1
  have all:∀ (rs:List ResultVar) (vs:List AV),(rs.mapM fun x=>(Ci P L' x).bind LV.rd)=some vs→∃ vs',rs.mapM (Ej P env' m')=some vs'∧vs'.length=vs.length∧∀ (j:Nat) (a a':AV),vs[j]?=some a→vs'[j]?=some a'→Fi a a':=by
   intro rs
   induction rs with
   | nil=>intro vs h;simp at h;subst h;exact⟨[],rfl,rfl,fun j a a' h=>by simp at h⟩
   | cons x rs ih =>
    intro vs h
    simp only[List.mapM_cons,Option.pure_def,Option.bind_eq_bind] at h
    obtain⟨a,k1,h⟩:=AE h
    obtain⟨as_,k2,h⟩:=AE h
    injection h with h;subst h
    obtain⟨a',k3,k4⟩:=one x a k1
    obtain⟨as',k5,k6,k7⟩:=ih as_ k2
    refine⟨a' :: as',by simp only[List.mapM_cons,Option.pure_def,Option.bind_eq_bind,k3,k5,Option.bind_some],by simp[k6],fun j c c' hc hc'=>?_⟩
    cases j with
    | zero=>simp at hc hc';subst hc hc';exact k4
    | succ j=>exact k7 j c c' (by simpa using hc) (by simpa using hc')
  obtain⟨vs',k1,k2,k3⟩:=all _ _ hvs
  have efz:=ANR k2 k3
  have hres:Gc P fn env' m'=some (FJ vs'):=by
   simp only[Gc,k1,Option.map_some];rfl
  refine⟨_,env',m',.of_body hf hbb h2 g1 hx hres,by rw[ADD,efz,hfin],fun hr=>?_,L',⟨fr,ℓ,ρ,g3⟩,hQ⟩
  rw[← hfin,← efz]
  exact ADt (by rw[efz,hfin];exact hr)
theorem LC.resultsF {fn : Func} {cb : Code} {args : List AV} {r : AV} {Q : AM → Prop} (hmix : P.follows .mixedOrders = true) (hf : P.funcs[f]? = some fn) (hbb : fn.body = some cb) (h2 : (fn.name == "runtime.NumGoroutine") = false) (h3 : okL (Bl fn) fn.ntmps (Bl fn) = true) (ha : args.length ≤ fn.ntmps) {L : AM}
  (hrel:Rel P c L (args++List.replicate (fn.ntmps - args.length) AV.undef) m)
  (h:LC P f none c (Dk 0 (Bl fn)) (fun x L=>(x=.ret∨x=.normal)∧MR r ((fn.results.toList.mapM fun x=>(Ci P L x).bind LV.rdF).map FJ)∧Q L) L) :
  ∃ r0 m',EB P f args m r0 m'∧(Bo r→Frz m' r0 r):=by
 have e:Bl fn=cb:=by simp[Bl,hbb]
 have e2:Cd P f=cb:=by simp[Cd,hf,hbb]
 have e3:fn.ntmps=BN P f:=by simp[BN,hf]
 rw[e] at h h3
 have hlen:(args++List.replicate (fn.ntmps - args.length) AV.undef).length=BN P f:=by rw[← e3];simp;omega
 obtain⟨x,env',m',g1,g2,L',g3,hx,hfin,hQ⟩:=LC.exec (f:=f) (c:=c) hmix hlen hrel (by rw[e2,← e3];exact h3) (fun i hi=>by rw[e2,Nat.zero_add]) h
 cases hvs:fn.results.toList.mapM fun x=>(Ci P L' x).bind LV.rdF with
 | none=>rw[hvs] at hfin;exact hfin.elim
 | some vs =>
  rw[hvs] at hfin
  simp only[Option.map_some,MR] at hfin
  obtain⟨fr,ℓ,ρ,g3⟩:=g3
  have one:∀ (x:ResultVar) (a:AV),(Ci P L' x).bind LV.rdF=some a→∃ a',Ej P env' m' x=some a'∧(Bo a.fz→Frz m' a'.stripR a.fz)∧(Bo a.strip→Frz m' a'.stripR1 a.strip):=by
   intro x a hxa
   obtain⟨v,k1,k2⟩:=AE hxa
   cases x with
   | tmp t =>
    simp only[Ci] at k1
    obtain⟨b,k3,k4⟩:=g3.slot t v k1 (by rintro rfl;cases k2)
    exact⟨b,k3,LV.frzF k2 k4 (fun i s es hh=>g3.tok i s es (.inl ⟨t,v,k1,hh⟩))⟩
   | cell q t =>
    simp only[Ci] at k1
    split at k1
    ·rename_i n off hc
     obtain⟨b,k3,k4⟩:=g3.slot q _ hc (by simp)
     simp only[BK] at k4;subst k4
     obtain⟨cs,k5,k6⟩:=AE k1
     split at k6
     ·cases k6
     rename_i hmp
     obtain⟨b,k7,k8⟩:=g3.locs n cs k5
     obtain⟨as_,rfl,k8⟩:=k8.nomp (by simpa using hmp)
     obtain⟨d,k9,k10,k11⟩:=RP (P:=P) (fr:=fr) k6 k8
     refine⟨d,?_,LV.frzF k2 k10 (fun i s es hh=>g3.tok i s es (.inr ⟨n,cs,k5,k11 i s es hh⟩))⟩
     simp only[Ej,k3,Option.bind_some,Fo,k7,k9]
    ·cases k1
  have all:∀ (rs:List ResultVar) (vs:List AV),(rs.mapM fun x=>(Ci P L' x).bind LV.rdF)=some vs→∃ vs',rs.mapM (Ej P env' m')=some vs'∧vs'.length=vs.length∧∀ (j:Nat) (a a':AV),vs[j]?=some a→vs'[j]?=some a'→(Bo a.fz→Frz m' a'.stripR a.fz)∧(Bo a.strip→Frz m' a'.stripR1 a.strip):=by
   intro rs
   induction rs with
   | nil=>intro vs h;simp at h;subst h;exact⟨[],rfl,rfl,fun j a a' h=>by simp at h⟩
   | cons x rs ih =>
    intro vs h
    simp only[List.mapM_cons,Option.pure_def,Option.bind_eq_bind] at h
    obtain⟨a,k1,h⟩:=AE h
    obtain⟨as_,k2,h⟩:=AE h
    injection h with h;subst h
    obtain⟨a',k3,k4⟩:=one x a k1
    obtain⟨as',k5,k6,k7⟩:=ih as_ k2
    refine⟨a' :: as',by simp only[List.mapM_cons,Option.pure_def,Option.bind_eq_bind,k3,k5,Option.bind_some],by simp[k6],fun j c c' hc hc'=>?_⟩
    cases j with
    | zero=>simp at hc hc';subst hc hc';exact k4
    | succ j=>exact k7 j c c' (by simpa using hc) (by simpa using hc')
  obtain⟨vs',k1,k2,k3⟩:=all _ _ hvs
  have hres:Gc P fn env' m'=some (FJ vs'):=by
   simp only[Gc,k1,Option.map_some];rfl
  refine⟨_,m',.of_body hf hbb h2 g1 hx hres,fun hr=>?_⟩
  rw[← hfin] at hr ⊢
  match vs,vs',k2,k3,hr with
  | [],[],_,_,hr=>exact hr.frz
  | [a],[a'],_,k3,hr=>exact(k3 0 a a' rfl rfl).1 hr
  | a :: b :: l,a' :: b' :: l',k2,k3,hr =>
   simp only[FJ,AV.fz,AV.stripR] at hr ⊢
   cases hr with
   | tuple _ hr =>
    refine .tuple _ _ (by simpa using k2.symm) (fun j c c' h1 h2=>?_)
    rw[List.getElem?_map] at h1 h2
    obtain⟨x,hx,rfl⟩:=Cr h1
    obtain⟨y,hy,rfl⟩:=Cr h2
    exact(k3 j y x hy hx).2 (hr _ (List.mem_map.2 ⟨y,List.mem_of_getElem? hy,rfl⟩))
theorem Wq:∀ (l:List AV) (k t:Nat) (v:LV),AI (Oh k l) t=some v→∃ a,v=.v a∧k≤t∧l[t - k]?=some a:=by
 intro l
 induction l with
 | nil=>intro k t v h;cases h
 | cons x l ih =>
  intro k t v h
  simp only[Oh,AI] at h
  split at h
  ·rename_i e;subst e;injection h with h;subst h;exact⟨x,rfl,Nat.le_refl _,by simp⟩
  ·obtain⟨a,h4,h5,h6⟩:=ih (k+1) t v h
   refine⟨a,h4,by omega,?_⟩
   rw[show t - k=(t - (k+1))+1 from by omega,List.getElem?_cons_succ];exact h6
def c0:FM:=⟨mE Bk,[],fun _=>False,fun p hp=>by cases hp⟩
theorem Fn.of_lc {fn : Func} {args : List AV} {r : AV} (hmix : P.follows .mixedOrders = true) (hf : P.funcs[f]? = some fn) (hok : (fn.body.isSome && !(fn.name == "runtime.NumGoroutine") && okL (Bl fn) fn.ntmps (Bl fn)) = true) (ha : decide (args.length ≤ fn.ntmps) = true)
  (hargs:∀ a∈args,Bo a) (hr:Bo r) (h:LC P f none c0 (Dk 0 (Bl fn)) (DO P fn.results.toList r fun _=>True) ⟨Oh 0 args,[]⟩):Fn P f args r:=by
 simp only[Bool.and_eq_true,Bool.not_eq_true'] at hok
 obtain⟨⟨h1,h2⟩,h3⟩:=hok
 simp only[decide_eq_true_eq] at ha
 cases hbb:fn.body with
 | none=>rw[hbb] at h1;cases h1
 | some cb =>
  have hrel:Rel P c0 ⟨Oh 0 args,[]⟩ (args++List.replicate (fn.ntmps - args.length) AV.undef) (mE Bk):=by
   have noV:∀ i s es,¬ Vis ⟨Oh 0 args,[]⟩ i s es:=by
    rintro i s es (⟨t,v,h4,h5⟩|⟨t,cs,h4,_⟩)
    ·obtain⟨a,rfl,_⟩:=Wq args 0 t v h4;exact h5
    ·cases h4
   refine⟨[],fun _=>0,fun _=>.full,rfl,fun t v h4 _=>?_,fun t cs h4=>(by cases h4),fun i s es hv=>(noV i s es hv).elim,fun i s es j s' es' hv=>(noV i s es hv).elim,fun t t' k k' h4=>(by cases h4),fun p hp=>(by cases hp),fun t k h4=>(by cases h4),fun i s es hv=>(noV i s es hv).elim,⟨Nat.le_refl _,Nat.le_refl _⟩,fun l b h4 _=>h4,fun id x h4 _=>h4,fun q hq=>(by cases hq),fun q hq=>(by cases hq)⟩
   obtain⟨a,rfl,_,h5⟩:=Wq args 0 t v h4
   rw[Nat.sub_zero] at h5
   exact⟨a,by rw[List.getElem?_append_left (List.getElem?_eq_some_iff.1 h5).1];exact h5,rfl⟩
  obtain⟨r0,m',g1,g3⟩:=LC.resultsF (c:=c0) (Q:=fun _=>True) hmix hf hbb h2 h3 ha hrel (DO.to h)
  exact Fn.of (μ:=Bk) g1 hargs (g3 hr)
def Em:Nat→List LA→List (Nat × LV)
 | _,[]=>[]
 | k,.a x :: l=>(k,.v x) :: Em (k+1) l
 | k,.p t :: l=>(k,.lref t 0) :: Em (k+1) l
 | k,.m t :: l=>(k,.mref t) :: Em (k+1) l
 | k,.fn f first cap :: l=>(k,.fn f first cap) :: Em (k+1) l
theorem HB:∀ (l:List LA) (k t:Nat) (v:LV),AI (Em k l) t=some v→k≤t∧(∃ x,l[t - k]?=some x∧∀ {fr:Fro} {ρ:Nat→Own},BK P fr ℓ ρ v (LA.av ℓ x))∧∀ i s es,¬ v.has i s es:=by
 intro l
 induction l with
 | nil=>intro k t v h;cases h
 | cons x l ih =>
  intro k t v h
  have hrec:AI (Em (k+1) l) t=some v→k≠t→k≤t∧(∃ y,(x :: l)[t - k]?=some y∧∀ {fr:Fro} {ρ:Nat→Own},BK P fr ℓ ρ v (LA.av ℓ y))∧∀ i s es,¬ v.has i s es:=by
   intro h hne
   obtain⟨h4,⟨y,h5,h6⟩,h7⟩:=ih (k+1) t v h
   refine⟨by omega,⟨y,?_,h6⟩,h7⟩
   rw[show t - k=(t - (k+1))+1 from by omega,List.getElem?_cons_succ];exact h5
  cases x <;> simp only[Em,AI] at h <;> split at h <;> first | (exact hrec h (by assumption)) | skip
  all_goals (rename_i e;subst e;injection h with h;subst h;exact⟨Nat.le_refl _,⟨_,by simp;rfl,by intro _ _;rfl⟩,fun i s es hh=>hh.elim⟩)
def Gu:List (Nat × List CV)→Bool
 | []=>true
 | (t,_) :: l=>decide (2000000≤t)&&Gu l
def MD (ℓ:Nat→Nat):List (Nat × List CV)→List (Nat × Nat)
 | []=>[]
 | (t,_) :: l=>(t,ℓ t) :: MD ℓ l
theorem Ex:∀ {N:List (Nat × List CV)},Gu N=true→∀ p∈MD ℓ N,2000000≤p.1∧p.2=ℓ p.1∧∃ cs,AI N p.1=some cs:=by
 intro N
 induction N with
 | nil=>intro _ p hp;cases hp
 | cons x l ih =>
  obtain⟨t0,c0⟩:=x
  intro h p hp
  simp only[Gu,Bool.and_eq_true,decide_eq_true_eq] at h
  simp only[MD] at hp
  rcases List.mem_cons.1 hp with rfl | hp
  ·exact⟨h.1,rfl,c0,by simp[AI]⟩
  ·obtain⟨h1,h3,cs,h4⟩:=ih h.2 p hp
   refine⟨h1,h3,?_⟩
   simp only[AI];split
   ·exact⟨_,rfl⟩
   ·exact⟨cs,h4⟩
theorem IK:∀ {N:List (Nat × List CV)} {t:Nat} {cs:List CV},AI N t=some cs→(t,ℓ t)∈MD ℓ N:=by
 intro N
 induction N with
 | nil=>intro t cs h;cases h
 | cons x l ih =>
  obtain⟨t0,c0⟩:=x
  intro t cs h
  simp only[AI] at h
  simp only[MD]
  split at h
  ·rename_i e;subst e;exact List.mem_cons_self
  ·exact List.mem_cons_of_mem _ (ih h)
mutual
def LA.inN (N:List (Nat × List CV)):LA→Bool
 | .a _=>true
 | .p t=>isSome (AI N t)
 | .m t=>isSome (AI N t)
 | .fn _ first cap=>LAs.inN N first&&LAs.inN N cap
def LAs.inN (N:List (Nat × List CV)):List LA→Bool
 | []=>true
 | x :: l=>LA.inN N x&&LAs.inN N l
end
def CVs.inN (N:List (Nat × List CV)):List CV→Bool
 | []=>true
 | .p t :: l=>isSome (AI N t)&&CVs.inN N l
 | .m t :: l=>isSome (AI N t)&&CVs.inN N l
 | .fn _ first cap :: l=>LAs.inN N first&&(LAs.inN N cap&&CVs.inN N l)
 | _ :: l=>CVs.inN N l
def KW (N:List (Nat × List CV)):List (Nat × List CV)→Bool
 | []=>true
 | (_,cs) :: l=>CVs.inN N cs&&KW N l
mutual
theorem LA.inN_av {N:List (Nat × List CV)} {ℓ':Nat→Nat} (hℓ:∀ t cs,AI N t=some cs→ℓ' t=ℓ t):∀ {x:LA},LA.inN N x=true→LA.av ℓ' x=LA.av ℓ x
 | .a x,_=>rfl
 | .p t,h=>by
  simp only[LA.inN,isSome] at h
  split at h
  ·simp only[LA.av,hℓ t _ (by assumption)]
  ·cases h
 | .m t,h=>by
  simp only[LA.inN,isSome] at h
  split at h
  ·simp only[LA.av,hℓ t _ (by assumption)]
  ·cases h
 | .fn f first cap,h=>by
  simp only[LA.inN,Bool.and_eq_true] at h
  simp only[LA.av,LAs.inN_av hℓ h.1,LAs.inN_av hℓ h.2]
theorem LAs.inN_av {N:List (Nat × List CV)} {ℓ':Nat→Nat} (hℓ:∀ t cs,AI N t=some cs→ℓ' t=ℓ t):∀ {l:List LA},LAs.inN N l=true→LAs.av ℓ' l=LAs.av ℓ l
 | [],_=>rfl
 | x :: l,h=>by
  simp only[LAs.inN,Bool.and_eq_true] at h
  simp only[LAs.av,LA.inN_av hℓ h.1,LAs.inN_av hℓ h.2]
end
theorem CVs.inN_mem {N:List (Nat × List CV)}:∀ {cs:List CV},CVs.inN N cs=true→∀ f first cap,CV.fn f first cap∈cs→LAs.inN N first=true∧LAs.inN N cap=true:=by
 intro cs
 induction cs with
 | nil=>intro _ f a b h;cases h
 | cons y l ih =>
  intro h f a b hm
  have hm0:=List.mem_cons.1 hm
  clear hm
  rcases hm0 with rfl | hm
  ·simp only[CVs.inN,Bool.and_eq_true] at h;exact⟨h.1,h.2.1⟩
  ·cases y with
   | fn g x y=>simp only[CVs.inN,Bool.and_eq_true] at h;exact ih h.2.2 f a b hm
   | p t=>simp only[CVs.inN,Bool.and_eq_true] at h;exact ih h.2 f a b hm
   | m t=>simp only[CVs.inN,Bool.and_eq_true] at h;exact ih h.2 f a b hm
   | _=>exact ih h f a b hm
theorem CVs.inN_ref {N:List (Nat × List CV)}:∀ {cs:List CV},CVs.inN N cs=true→∀ t,(CV.p t∈cs∨CV.m t∈cs)→∃ k,AI N t=some k:=by
 intro cs
 induction cs with
 | nil=>rintro _ t (h | h) <;> cases h
 | cons y l ih =>
  intro h t hm
  have hl:CVs.inN N l=true:=by cases y <;> simp only[CVs.inN,Bool.and_eq_true] at h <;> first | exact h.2.2 | exact h.2 | exact h
  have key:∀ {y:CV},(y=CV.p t∨y=CV.m t)→CVs.inN N (y :: l)=true→∃ k,AI N t=some k:=by
   intro y hy h
   rcases hy with rfl | rfl <;> simp only[CVs.inN,Bool.and_eq_true,isSome] at h <;> (obtain⟨h,_⟩:=h;split at h <;> first | exact⟨_,by assumption⟩ | cases h)
  rcases hm with hm | hm
  ·rcases List.mem_cons.1 hm with e | hm
   ·exact key (.inl e.symm) h
   ·exact ih hl t (.inl hm)
  ·rcases List.mem_cons.1 hm with e | hm
   ·exact key (.inr e.symm) h
   ·exact ih hl t (.inr hm)
theorem Kh {N0:List (Nat × List CV)}:∀ {N:List (Nat × List CV)},KW N0 N=true→∀ t cs,AI N t=some cs→CVs.inN N0 cs=true:=by
 intro N
 induction N with
 | nil=>intro _ t cs h;cases h
 | cons x l ih =>
  obtain⟨t0,c0⟩:=x
  intro h t cs hc
  simp only[KW,Bool.and_eq_true] at h
  simp only[AI] at hc
  split at hc
  ·injection hc with hc;subst hc;exact h.1
  ·exact ih h.2 t cs hc
theorem AC3 {N:List (Nat × List CV)} {ℓ':Nat→Nat} {ρ:Nat→Own} (hℓ:∀ t cs,AI N t=some cs→ℓ' t=ℓ t) {cs:List CV} {as_:List AV} (hi:CVs.inN N cs=true) (h:Cs ℓ' ρ cs as_):Cs ℓ ρ cs as_ :=
 ⟨h.1,fun j x a hj ha=>by
  have h1:=h.2 j x a hj ha
  cases x with
  | fn f first cap =>
   obtain⟨h2,h3⟩:=CVs.inN_mem hi f first cap (List.mem_of_getElem? hj)
   simp only[EF] at h1 ⊢
   rw[← LAs.inN_av hℓ h2,← LAs.inN_av hℓ h3];exact h1
  | p t =>
   obtain⟨k,hk⟩:=CVs.inN_ref hi t (.inl (List.mem_of_getElem? hj))
   simp only[EF] at h1 ⊢
   rw[← hℓ t k hk];exact h1
  | m t =>
   obtain⟨k,hk⟩:=CVs.inN_ref hi t (.inr (List.mem_of_getElem? hj))
   simp only[EF] at h1 ⊢
   rw[← hℓ t k hk];exact h1
  | _=>exact h1⟩
theorem Nu {N:List (Nat × List CV)} {ℓ':Nat→Nat} {ρ:Nat→Own} (hℓ:∀ t cs,AI N t=some cs→ℓ' t=ℓ t) {cs:List CV} {b:Ck} (hi:CVs.inN N cs=true) (h:FH ℓ' ρ cs b):FH ℓ ρ cs b:=by
 cases b with
 | cells as_=>exact AC3 hℓ hi h
 | _=>exact h
theorem FnB.of_lc {fn : Func} {N N' : List (Nat × List CV)} {args : List LA} {r : AV} (hmix : P.follows .mixedOrders = true) (hf : P.funcs[f]? = some fn) (hok : (fn.body.isSome && !(fn.name == "runtime.NumGoroutine") && okL (Bl fn) fn.ntmps (Bl fn)) = true) (ha : decide (args.length ≤ fn.ntmps) = true) (hN : (Gu N && (JZ [] N' && (CJ N N' && KW N N'))) = true)
  (h:∀ c,LC P f none c (Dk 0 (Bl fn)) (Oj P fn.results.toList r fun L=>∃ σ,FN σ=true∧vwN σ [] L.N N') ⟨Em 0 args,N⟩):FnB P f N args r N':=by
 intro m ℓ ρ hmode hh
 simp only[Bool.and_eq_true,Bool.not_eq_true'] at hok hN
 obtain⟨⟨h1,h2⟩,h3⟩:=hok
 simp only[decide_eq_true_eq] at ha
 have hlen:∀ {l:List LA},(LAs.av ℓ l).length=l.length:=by
  intro l;induction l with
  | nil=>rfl
  | cons x l ih=>simp only[LAs.av,List.length_cons,ih]
 have hgetl:∀ {l:List LA} {j:Nat} {x:LA},l[j]?=some x→(LAs.av ℓ l)[j]?=some (LA.av ℓ x):=by
  intro l;induction l with
  | nil=>intro j x h;simp at h
  | cons y l ih =>
   intro j x h
   cases j with
   | zero=>simp at h;subst h;rfl
   | succ j=>simp only[LAs.av,List.getElem?_cons_succ] at h ⊢;exact ih h
 cases hbb:fn.body with
 | none=>rw[hbb] at h1;cases h1
 | some cb =>
  let cc:FM:=⟨m,MD ℓ N,fun id=>∃ i s es,Du N i s es∧ρ i=.row id,fun p hp=>(Ex hN.1 p hp).1⟩
  have visN:∀ {i s es},Vis ⟨Em 0 args,N⟩ i s es→Du N i s es:=by
   rintro i s es (⟨t,v,h4,h5⟩ | h4)
   ·exact((HB (P:=P) (ℓ:=ℓ) args 0 t v h4).2.2 i s es h5).elim
   ·exact h4
  have hrel:Rel P cc ⟨Em 0 args,N⟩ (LAs.av ℓ args++List.replicate (fn.ntmps - (LAs.av ℓ args).length) AV.undef) m:=by
   refine⟨[],ℓ,ρ,hmode,fun t v h4 _=>?_,hh.locs,fun i s es hv=>hh.tok i s es (visN hv),fun i s es j s' es' hv hv'=>hh.apart i s es j s' es' (visN hv) (visN hv'),hh.inj,fun p hp=>?_,fun t cs h4=>?_,fun i s es hv id hid=>.inr ⟨i,s,es,visN hv,hid⟩,⟨Nat.le_refl _,Nat.le_refl _⟩,fun l b h4 _=>h4,fun id x h4 _=>h4,fun q hq=>(by cases hq),fun q hq=>(by cases hq)⟩
   ·obtain⟨_,⟨x,h5,h6⟩,_⟩:=HB (P:=P) (ℓ:=ℓ) args 0 t v h4
    rw[Nat.sub_zero] at h5
    have h7:=hgetl h5
    exact⟨_,by rw[List.getElem?_append_left (List.getElem?_eq_some_iff.1 h7).1];exact h7,h6⟩
   ·obtain⟨_,h6,h7⟩:=Ex hN.1 p hp
    exact⟨h7,h6.symm⟩
   ·exact .inr (.inl ⟨_,IK h4,rfl⟩)
  obtain⟨r0,env',m',g1,g2,_,L',⟨fr,ℓ',ρ',g3⟩,σ,g4,g5⟩:=LC.results (c:=cc) (Q:=fun L=>∃ σ,FN σ=true∧vwN σ [] L.N N') hmix hf hbb h2 h3 (by rw[hlen];exact ha) hrel (Oj.to (h cc))
  have g1':=g1.fz
  rw[g2] at g1'
  obtain⟨hn1,hn2,hn3,hn4⟩:=hN
  have hℓ:∀ t cs,AI N t=some cs→ℓ' t=ℓ t:=fun t cs ht=>(g3.bor _ (IK (ℓ:=ℓ) ht)).2
  have hh':Fs ℓ' (vρ σ ρ') m' N':=g3.held.view (τ:=[]) g4 hn2 g5
  have hnm:∀ t cs,AI N' t=some cs→∃ k,AI N t=some k:=fun t cs ht=>Fz hn3 t cs ht
  refine⟨m',vρ σ ρ',g1',⟨fun t cs ht=>?_,hh'.tok,hh'.apart,fun t t' cs cs' h1 h2 h3=>?_⟩,⟨g3.mode,g3.len,fun l b hb hne=>?_,fun id x hx hne=>?_,fun i s es hi id hid=>?_⟩⟩
  ·obtain⟨as_,k1,k2⟩:=hh'.locs t cs ht
   obtain⟨k,hk⟩:=hnm t cs ht
   rw[hℓ t k hk] at k1
   exact⟨as_,k1,Nu hℓ (Kh hn4 t cs ht) k2⟩
  ·obtain⟨k,hk⟩:=hnm t cs h1
   obtain⟨k',hk'⟩:=hnm t' cs' h2
   exact hh'.inj t t' cs cs' h1 h2 (by rw[hℓ t k hk,hℓ t' k' hk'];exact h3)
  ·refine g3.frame l b hb (fun p hp hlt e=>?_)
   obtain⟨_,k2,k,k3⟩:=Ex hn1 p hp
   exact hne p.1 k k3 hlt (by rw[← k2,e])
  ·exact g3.rframe id x hx (fun ⟨i,s,es,k1,k2⟩=>hne i s es k1 k2)
  ·rcases Ih g5 hi with k1 | ⟨i',k1,k2⟩
   ·simp only[vρ,k1] at hid;cases hid
   ·simp only[vρ,k1] at hid
    rcases g3.rlow i' s es k2.vis id hid with k3 | ⟨i0,s0,es0,k3,k4⟩
    ·exact .inl k3
    ·exact .inr ⟨i0,s0,es0,k3,k4⟩
end
end
end Go.Proofs.YtjnnhjgjecgomaaGreat.G
