/-
Part 5 of the proof of DeepTells: merged by mkclaim.py (a program of this repo) out of texts of wip/g and printed models.
-/
import Derived.Test.YtjnnhjgjecgomaaGreatDeepTells4
set_option linter.unusedVariables false
set_option linter.unusedSimpArgs false
set_option maxRecDepth 100000
set_option maxHeartbeats 8000000
namespace Go.Proofs.YtjnnhjgjecgomaaGreat.G
section
def AB.size:AB→Nat
 | ⟨a,b,c,d,e,ps⟩=>1+sizeL ps
where sizeL:List AB→Nat
 | []=>0
 | x :: l=>x.size+sizeL l
theorem ADe (l:List AB):AB.size.sizeL l=(l.map AB.size).sum:=by
 induction l with
 | nil=>simp only[AB.size.sizeL,List.map_nil,List.sum_nil]
 | cons x l ih=>simp only[AB.size.sizeL,List.map_cons,List.sum_cons,ih]
theorem Im (x:AB):x.size=1+(x.Parts.map AB.size).sum:=by
 obtain⟨a,b,c,d,e,ps⟩:=x
 simp only[AB.size,ADe]
def AA.size:AA→Nat
 | ⟨a,b,ks,c,d⟩=>1+(c.map AB.size).sum+sizeL ks
where sizeL:List AA→Nat
 | []=>0
 | x :: l=>x.size+sizeL l
theorem AD4 (l:List AA):AA.size.sizeL l=(l.map AA.size).sum:=by
 induction l with
 | nil=>simp only[AA.size.sizeL,List.map_nil,List.sum_nil]
 | cons x l ih=>simp only[AA.size.sizeL,List.map_cons,List.sum_cons,ih]
theorem DX (x:AA):x.size=1+(x.Conj.map AB.size).sum+(x.Kids.map AA.size).sum:=by
 obtain⟨a,b,ks,c,d⟩:=x
 simp only[AA.size,AD4]
theorem KU (x:AB):1≤x.size:=by rw[Im];omega
theorem KZ (x:AA):1≤x.size:=by rw[DX];omega
theorem Wy {α:Type} (f:α→Nat):∀ {l:List α} {x:α},x∈l→f x≤(l.map f).sum:=by
 intro l
 induction l with
 | nil=>intro x h;cases h
 | cons y l ih =>
  intro x h
  simp only[List.map_cons,List.sum_cons]
  rcases List.mem_cons.1 h with rfl | h
  ·omega
  ·have:=ih h;omega
theorem Me {α:Type} (f:α→Nat) (h1:∀ x,1≤f x):∀ (l:List α),l.length≤(l.map f).sum:=by
 intro l
 induction l with
 | nil=>simp
 | cons y l ih=>simp only[List.map_cons,List.sum_cons,List.length_cons];have:=h1 y;omega
theorem Xw (p:AB):∀ k:Nat,1≤k→k<9223372036854775808→Ca (p,(k:Int))=some ((min p.size k:Nat):Int):=by
 induction p using AB.induct with
 | h p ih =>
  intro k hk1 hk2
  have key:=Gb p.Parts (fun i n=>1≤n∧n≤k∧i<n) (fun i (n:Nat)=>Ca.l0 ((k:Int),(n:Int),(i:Int),p)) (fun n l=>some ((min (n+(l.map AB.size).sum) k:Nat):Int))
   (fun n hn=>by
    show Ca.l0 _=_
    rw[Ca.l0,if_neg (dge (by dsimp only;omega))]
    simp only[List.map_nil,List.sum_nil,Nat.add_zero]
    rw[Nat.min_eq_left hn.2.1])
   (fun i n h hn ih2=>by
    show Ca.l0 _=_
    rw[Ca.l0,if_pos (dlt (by dsimp only;omega))]
    dsimp only
    by_cases h1:n<k
    ·rw[if_pos (dlt (by omega)),Ai h]
     have e1:w64 ((k:Int) - (n:Int))=((k - n:Nat):Int):=by rw[Gx (by omega) (by omega)];omega
     simp only[Option.bind_eq_bind,Option.bind_some]
     rw[e1,ih _ (List.getElem_mem h) (k - n) (by omega) (by omega)]
     simp only[Option.bind_some]
     have hp:=KU p.Parts[i]
     have e2:w64 ((n:Int)+((min p.Parts[i].size (k - n):Nat):Int))=((min (n+p.Parts[i].size) k:Nat):Int):=by rw[Gx (by omega) (by omega)];omega
     rw[e2,Aa (by omega)]
     have:=ih2 (min (n+p.Parts[i].size) k) (by omega)
     try dsimp only at this
     rw[this]
     simp only[List.map_cons,List.sum_cons]
     congr 2;omega
    ·rw[if_neg (dge (by omega))]
     congr 2;omega) 0 1 (Nat.zero_le _) (by omega)
  rw[Ca]
  rw[List.drop_zero] at key
  have key':Ca.l0 ((k:Int),1,0,p)=_:=key
  dsimp only
  rw[key',Im];rfl
theorem Pg (t:AA):∀ k:Nat,1≤k→k<9223372036854775808→Aw (t,(k:Int))=some ((min t.size k:Nat):Int):=by
 induction t using AA.induct with
 | h t ih =>
  intro k hk1 hk2
  have key:=Gb t.Conj (fun i n=>1≤n∧n≤k∧i<n) (fun i (n:Nat)=>Aw.l0 ((k:Int),(n:Int),(i:Int),t)) (fun n l=>some ((min (n+(l.map AB.size).sum) k:Nat):Int))
   (fun n hn=>by
    show Aw.l0 _=_
    rw[Aw.l0,if_neg (dge (by dsimp only;omega))]
    simp only[List.map_nil,List.sum_nil,Nat.add_zero]
    rw[Nat.min_eq_left hn.2.1])
   (fun i n h hn ih2=>by
    show Aw.l0 _=_
    rw[Aw.l0,if_pos (dlt (by dsimp only;omega))]
    dsimp only
    by_cases h1:n<k
    ·rw[if_pos (dlt (by omega)),Ai h]
     have e1:w64 ((k:Int) - (n:Int))=((k - n:Nat):Int):=by rw[Gx (by omega) (by omega)];omega
     simp only[Option.bind_eq_bind,Option.bind_some]
     rw[e1,Xw _ (k - n) (by omega) (by omega)]
     simp only[Option.bind_some]
     have hp:=KU t.Conj[i]
     have e2:w64 ((n:Int)+((min t.Conj[i].size (k - n):Nat):Int))=((min (n+t.Conj[i].size) k:Nat):Int):=by rw[Gx (by omega) (by omega)];omega
     rw[e2,Aa (by omega)]
     have:=ih2 (min (n+t.Conj[i].size) k) (by omega)
     try dsimp only at this
     rw[this]
     simp only[List.map_cons,List.sum_cons]
     congr 2;omega
    ·rw[if_neg (dge (by omega))]
     congr 2;omega) 0 1 (Nat.zero_le _) (by omega)
  have key2:=fun n0 (h0:1≤n0∧n0≤k)=>Gb t.Kids (fun i n=>1≤n∧n≤k∧i<n) (fun i (n:Nat)=>Aw.l1 ((k:Int),(n:Int),(i:Int),t)) (fun n l=>some ((min (n+(l.map AA.size).sum) k:Nat):Int))
   (fun n hn=>by
    show Aw.l1 _=_
    rw[Aw.l1,if_neg (dge (by dsimp only;omega))]
    simp only[List.map_nil,List.sum_nil,Nat.add_zero]
    rw[Nat.min_eq_left hn.2.1])
   (fun i n h hn ih2=>by
    show Aw.l1 _=_
    rw[Aw.l1,if_pos (dlt (by dsimp only;omega))]
    dsimp only
    by_cases h1:n<k
    ·rw[if_pos (dlt (by omega)),Ai h]
     have e1:w64 ((k:Int) - (n:Int))=((k - n:Nat):Int):=by rw[Gx (by omega) (by omega)];omega
     simp only[Option.bind_eq_bind,Option.bind_some]
     rw[e1,ih _ (List.getElem_mem h) (k - n) (by omega) (by omega)]
     simp only[Option.bind_some]
     have hp:=KZ t.Kids[i]
     have e2:w64 ((n:Int)+((min t.Kids[i].size (k - n):Nat):Int))=((min (n+t.Kids[i].size) k:Nat):Int):=by rw[Gx (by omega) (by omega)];omega
     rw[e2,Aa (by omega)]
     have:=ih2 (min (n+t.Kids[i].size) k) (by omega)
     try dsimp only at this
     rw[this]
     simp only[List.map_cons,List.sum_cons]
     congr 2;omega
    ·rw[if_neg (dge (by omega))]
     congr 2;omega) 0 n0 (Nat.zero_le _) (by omega)
  rw[Aw]
  rw[List.drop_zero] at key
  have key':Aw.l0 ((k:Int),1,0,t)=_:=key
  dsimp only
  rw[key']
  simp only[Option.bind_eq_bind,Option.bind_some]
  have k2:=key2 (min (1+(t.Conj.map AB.size).sum) k) (by omega)
  rw[List.drop_zero] at k2
  have k3:Aw.l1 ((k:Int),((min (1+(t.Conj.map AB.size).sum) k:Nat):Int),0,t)=_:=k2
  rw[k3,DX]
  simp only[Option.bind_some]
  congr 2;omega
theorem Xf (t:AA):t∈t.tour:=by rw[Dk];simp
theorem Zf {t y:AA} (h:y∈t.Kids):∀ z∈y.tour,z∈t.tour:=by
 intro z hz
 rw[Dk,List.mem_append]
 exact .inl (List.mem_flatMap.2 ⟨y,h,hz⟩)
theorem Cc {t y:AA} (h:y∈t.Kids):y.size<t.size:=by
 have:=Wy AA.size h
 rw[DX t];omega
theorem KP (t:AA):∀ y∈t.tour,y.size≤t.size:=by
 induction t using AA.induct with
 | h t ih =>
  intro y hy
  rw[Dk,List.mem_append] at hy
  rcases hy with hy | hy
  ·obtain⟨k,hk,hy⟩:=List.mem_flatMap.1 hy
   have:=ih k hk y hy
   have:=Cc hk
   omega
  ·simp at hy;subst hy;exact Nat.le_refl _
theorem NG (t:AA):t.Kids.length<t.size:=by
 have:=Me AA.size KZ t.Kids
 rw[DX];omega
theorem LI (t:AA):t.Conj.length<t.size:=by
 have:=Me AB.size KU t.Conj
 rw[DX];omega
theorem LL (t:AA):t.tour.length≤t.size:=by
 induction t using AA.induct with
 | h t ih =>
  rw[Dk,List.length_append,DX,List.length_flatMap]
  have:∀ l:List AA,(∀ y∈l,y.tour.length≤y.size)→(l.map fun y=>y.tour.length).sum≤(l.map AA.size).sum:=by
   intro l
   induction l with
   | nil=>intro _;simp
   | cons y l ih=>intro h;simp only[List.map_cons,List.sum_cons];have:=ih fun z hz=>h z (List.mem_cons_of_mem _ hz);have:=h y List.mem_cons_self;omega
  have:=this t.Kids ih
  simp;omega
def Ag (l:List AA):List Int:=(l.filter fun y=>y.Kind == 0).map AA.Table
theorem JE {x:AA} (l:List AA) (h:x.Kind=0):Ag (x :: l)=x.Table :: Ag l:=by simp[Ag,h]
theorem HD {x:AA} (l:List AA) (h:¬ x.Kind=0):Ag (x :: l)=Ag l:=by simp[Ag,h]
def AX (t:AA):AC:=ofL (Ag t.tour)
theorem NH (l:List AA):(Ag l).length≤l.length:=by
 unfold Ag
 rw[List.length_map];exact List.length_filter_le _ _
theorem Qp (t:AA) (h:t.size<9223372036854775808):GH t=some t.tour:=by
 unfold GH
 rw[if_pos]
 rw[List.all_eq_true]
 intro y hy
 have:=KP t y hy
 have:=NG y
 simp;omega
theorem WS (t:AA) (h:t.size<9223372036854775808):CF t=some (AX t):=by
 have key:∀ (l:List AA) (s:AC),CF.r0 (l,s)=some (s|||ofL (Ag l)):=by
  intro l
  induction l with
  | nil=>intro s;rw[CF.r0];simp[Ag,Hs]
  | cons x l ih =>
   intro s
   rw[CF.r0]
   dsimp only
   by_cases hx:x.Kind=0
   ·rw[if_pos (by simpa using hx),PH _ (by simp)]
    simp only[Option.bind_eq_bind,Option.bind_some,ih]
    have:Ag (x :: l)=x.Table :: Ag l:=by simp[Ag,hx]
    rw[this,GZ,GZ,Hs,BitVec.or_zero,BitVec.or_assoc]
   ·rw[if_neg (by simpa using hx),ih]
    have:Ag (x :: l)=Ag l:=by simp[Ag,hx]
    rw[this]
 unfold CF
 rw[Qp t h]
 simp only[Option.bind_eq_bind,Option.bind_some,key,BitVec.zero_or];rfl
theorem Kq (t:AA):t.size≤1000000000→Bp t=some t.tour:=by
 induction t using AA.induct with
 | h t ih =>
  intro hsz
  have hk:=NG t
  have htl:=LL t
  have key:=Gb t.Kids (fun i acc=>acc=(t.Kids.take i).flatMap AA.tour) (fun i (acc:List AA)=>Bp.l0 (acc,(i:Int),t)) (fun acc l=>some (acc++l.flatMap AA.tour))
   (fun acc ha=>by
    show Bp.l0 _=_
    rw[Bp.l0,if_neg (dge (by dsimp only;omega))]
    simp)
   (fun i acc h ha ih2=>by
    show Bp.l0 _=_
    rw[Bp.l0,if_pos (dlt (by dsimp only;omega))]
    dsimp only
    rw[Ai h]
    have hm:=List.getElem_mem h
    have hks:=Cc hm
    simp only[Option.bind_eq_bind,Option.bind_some]
    rw[ih _ hm (by omega)]
    simp only[Option.bind_some]
    have e:acc++t.Kids[i].tour=(t.Kids.take (i+1)).flatMap AA.tour:=by
     rw[List.take_succ_eq_append_getElem h,List.flatMap_append,ha];simp
    have hle:(acc++t.Kids[i].tour).length≤t.tour.length:=by
     rw[e,Dk,List.length_append]
     have:t.Kids.flatMap AA.tour=(t.Kids.take (i+1)).flatMap AA.tour++(t.Kids.drop (i+1)).flatMap AA.tour:=by rw[← List.flatMap_append,List.take_append_drop]
     rw[this,List.length_append];omega
    rw[Bt (by rw[← List.length_append];omega)]
    simp only[Option.bind_some]
    rw[Aa (by omega)]
    have:=ih2 (acc++t.Kids[i].tour) e
    try dsimp only at this
    rw[this]
    simp only[List.flatMap_cons,List.append_assoc]) 0 [] (Nat.zero_le _) (by simp)
  rw[Bp]
  rw[List.drop_zero,List.nil_append] at key
  have key':Bp.l0 (([]:List AA),0,t)=some (t.Kids.flatMap AA.tour):=key
  rw[key']
  simp only[Option.bind_eq_bind,Option.bind_some]
  rw[Bt (by
   have:(t.Kids.flatMap AA.tour++[t]).length≤t.size:=by rw[← Dk];exact htl
   rw[List.length_append] at this
   omega)]
  simp only[Option.bind_some]
  rw[Dk]
theorem Cz (t:AA) (hsz:t.size≤1000000000):Aj t=some (AX t):=by
 have htl:=LL t
 have key:∀ (l:List AA),l.length≤1000000000→Aj.l0 (([]:List Int),l,0)=some (Ag l):=by
  intro l hl
  have:=Gb l (fun i acc=>acc.length≤i) (fun i (acc:List Int)=>Aj.l0 (acc,l,(i:Int))) (fun acc l=>some (acc++Ag l))
   (fun acc ha=>by
    show Aj.l0 _=_
    rw[Aj.l0,if_neg (dge (by dsimp only;omega))]
    simp[Ag])
   (fun i acc h ha ih2=>by
    show Aj.l0 _=_
    rw[Aj.l0,if_pos (dlt (by dsimp only;omega))]
    dsimp only
    rw[Ai h]
    simp only[Option.bind_eq_bind,Option.bind_some]
    rw[Aa (by omega)]
    by_cases hx:l[i].Kind=0
    ·rw[if_pos (by simpa using hx),Bt (by simp;omega)]
     simp only[Option.bind_some]
     have:=ih2 (acc++[l[i].Table]) (by simp;omega)
     try dsimp only at this
     rw[this]
     rw[JE _ hx,List.append_assoc];rfl
    ·rw[if_neg (by simpa using hx)]
     have:=ih2 acc (by omega)
     try dsimp only at this
     rw[this]
     rw[HD _ hx]) 0 [] (Nat.zero_le _) (by simp)
  rw[List.drop_zero,List.nil_append] at this
  exact this
 unfold Aj
 rw[Kq t hsz]
 simp only[Option.bind_eq_bind,Option.bind_some]
 rw[key _ (by omega)]
 simp only[Option.bind_some]
 rw[Jg _ (by have:=NH t.tour;omega)];rfl
end
section
theorem AJP:okF Tryz.f140=true:=by kernel_rfl
mutual
def BU.l0 (x:AC × Int × AA):Option (AC) :=
 if(decide (x.2.1<(x.2.2.Kids.length:Int)))=true then
  if(x.2.1 == 0)=true then
   (AU x.2.2.Kids x.2.1)>>=fun (e6:AA) =>
   BU e6>>=fun r8 =>
   BU.l0 ((x.1|||r8),(w64 (x.2.1+1)),x.2.2)
  else
   if(x.2.2.Kind != 3)=true then
    if(x.2.2.Kind != 4)=true then
     (AU x.2.2.Kids x.2.1)>>=fun (e12:AA) =>
     BU e12>>=fun r14 =>
     BU.l0 ((x.1|||r14),(w64 (x.2.1+1)),x.2.2)
    else
     BU.l0 (x.1,(w64 (x.2.1+1)),x.2.2)
   else
    BU.l0 (x.1,(w64 (x.2.1+1)),x.2.2)
 else
  some x.1
 partial_fixpoint
def BU (x:AA):Option (AC) :=
 if(x.Kind == 0)=true then
  BE ([x.Table])>>=fun r2 =>
  some r2
 else
  BU.l0 (0#64,0,x)>>=fun (o16:AC) =>
  some o16
 partial_fixpoint
end
theorem BU.l0.ws:PC BU.l0 (fun x o=>∀ lo c (Q:EP) (hb:∀ s:AC,o=s→Q (.exit 0) ⟨[(3,.v (.w s))],[]⟩),AK Tryz.prog 140 lo c 0 (VQ Q) ⟨[(1,.lref 1 0),(3,.v (.w x.1)),(4,.v (.i64 x.2.1))],[(1,[.v (.i64 x.2.2.Kind),.v (.i64 x.2.2.Table),.v (.slice .foreign (x.2.2.Kids.map AA.av)),.v (.slice .foreign (x.2.2.Conj.map AB.av)),.v (.bool x.2.2.Hash)])]⟩)∧PC BU (fun x r=>Fn Tryz.prog 140 [.agg (AA.C x)] (.w r)):=by
 refine BU.l0.mutual_partial_correctness _ _ ?_ ?_
 ·intro JS Wh Iy VB x o h
  have SU:AH JS _:=⟨Iy⟩
  have AJO:AH Wh _:=⟨VB⟩
  intro lo c Q hb
  refine AK.step mix AFe (by kernel_rfl) ?_
  simp -implicitDefEqProofs only[go_sem,Tryz.f140]
  exact AR
 ·intro JS Iy x r h
  have SU:AH JS _:=⟨Iy⟩
  refine Fn.of_lc mix AFe AJP (by rfl) (flC (AA.flatC _) (flN)) (.atom _) ?_
  simp -implicitDefEqProofs only[go_sem,Tryz.f140]
  exact AR
instance BU.w:type_of% (AH.mk BU.l0.ws.2):=⟨BU.l0.ws.2⟩
end
section
theorem AI9:okF Tryz.f156=true:=by kernel_rfl
mutual
def BX.l0 (x:List CG × Int × AB):Option (List CG) :=
 if(decide (x.2.1<(x.2.2.Parts.length:Int)))=true then
  (AU x.2.2.Parts x.2.1)>>=fun (e8:AB) =>
  BX e8>>=fun r10 =>
  (room 16 x.1 r10)>>=fun (z12:List CG) =>
  BX.l0 (z12,(w64 (x.2.1+1)),x.2.2)
 else
  some x.1
 partial_fixpoint
def BX (x:AB):Option (List CG) :=
 if(x.A.Kind == 1)=true then
  (room 16 ([]:List CG) ([(⟨x.A.Table,x.A.Col⟩:CG)]))>>=fun (z2:List CG) =>
  if(x.B.Kind == 1)=true then
   (room 16 z2 ([(⟨x.B.Table,x.B.Col⟩:CG)]))>>=fun (z5:List CG) =>
   BX.l0 (z5,0,x)>>=fun (o14:List CG) =>
   some o14
  else
   BX.l0 (z2,0,x)>>=fun (o16:List CG) =>
   some o16
 else
  if(x.B.Kind == 1)=true then
   (room 16 ([]:List CG) ([(⟨x.B.Table,x.B.Col⟩:CG)]))>>=fun (z19:List CG) =>
   BX.l0 (z19,0,x)>>=fun (o21:List CG) =>
   some o21
  else
   BX.l0 (([]:List CG),0,x)>>=fun (o23:List CG) =>
   some o23
 partial_fixpoint
end
theorem BX.l0.ws:PC BX.l0 (fun x o=>∀ lo c (Q:EP) (hb:∀ s:List CG,o=s→Q (.exit 0) ⟨[(3,.own 100300 2 (s.map CG.av))],[]⟩),AK Tryz.prog 156 lo c 0 (VQ Q) ⟨[(1,.lref 1 0),(3,.own 100300 2 (x.1.map CG.av)),(4,.v (.i64 x.2.1))],[(1,[.v (.i64 x.2.2.Kind),.v (.i64 x.2.2.Truth),.v (.i64 x.2.2.Op),.v (.i64 x.2.2.A.Kind),.v (.i64 x.2.2.A.Table),.v (.i64 x.2.2.A.Col),.v (.bool x.2.2.A.Value.Null),.v (.i64 x.2.2.A.Value.N),.v (.i64 x.2.2.B.Kind),.v (.i64 x.2.2.B.Table),.v (.i64 x.2.2.B.Col),.v (.bool x.2.2.B.Value.Null),.v (.i64 x.2.2.B.Value.N),.v (.slice .foreign (x.2.2.Parts.map AB.av))])]⟩)∧PC BX (fun x r=>Fn Tryz.prog 156 [.agg (AB.C x)] (.slice .foreign (r.map CG.av))):=by
 refine BX.l0.mutual_partial_correctness _ _ ?_ ?_
 ·intro IK SB Hr RX x o h
  have OY:AH IK _:=⟨Hr⟩
  have AFy:AH SB _:=⟨RX⟩
  intro lo c Q hb
  refine AK.step mix ADh (by kernel_rfl) ?_
  simp -implicitDefEqProofs only[go_sem,Tryz.f156]
  exact AR
 ·intro IK Hr x r h
  have OY:AH IK _:=⟨Hr⟩
  refine Fn.of_lc mix ADh AI9 (by rfl) (flC (AB.flatC _) (flN)) (AT _ CG.flat _) ?_
  simp -implicitDefEqProofs only[go_sem,Tryz.f156]
  exact AR
instance BX.w:type_of% (AH.mk BX.l0.ws.2):=⟨BX.l0.ws.2⟩
end
section
theorem AII:okF Tryz.f165=true:=by kernel_rfl
def IT (x:BT):Option (Bool) :=
 if x.Null=true then
  some (x.N == 0)
 else
  some true
instance IT.w:AH IT (fun x r=>Fn Tryz.prog 165 [.agg (BT.C x)] (.bool r)):=⟨by
 intro x r h
 rw[IT] at h
 try dsimp only
 refine Fn.of_lc mix AKt AII (by rfl) (flC (BT.flatC _) (flN)) (.atom _) ?_
 simp -implicitDefEqProofs only[go_sem,Tryz.f165]
 exact AR⟩
end
section
theorem AIS:okF Tryz.f163=true:=by kernel_rfl
def EF (x:BF):Option (Bool) :=
 if(x.Kind == 1)=true then
  if(decide (x.Table ≥ 0))=true then
   if(decide (x.Table≤63))=true then
    if(decide (x.Col ≥ 0))=true then
     if(decide (x.Col≤3))=true then
      if x.Value.Null=true then
       some false
      else
       some (x.Value.N == 0)
     else
      some false
    else
     some false
   else
    some false
  else
   some false
 else
  if(x.Kind == 2)=true then
   if(x.Table == 0)=true then
    if(x.Col == 0)=true then
     IT x.Value>>=fun r10 =>
     some r10
    else
     some false
   else
    some false
  else
   some false
instance EF.w:AH EF (fun x r=>Fn Tryz.prog 163 [.agg (BF.C x)] (.bool r)):=⟨by
 intro x r h
 rw[EF] at h
 try dsimp only
 refine Fn.of_lc mix AMA AIS (by rfl) (flC (BF.flatC _) (flN)) (.atom _) ?_
 simp -implicitDefEqProofs only[go_sem,Tryz.f163]
 exact AR⟩
end
section
theorem AI8:okF Tryz.f159=true:=by kernel_rfl
mutual
def Cr.l0 (x:Int × Int × AB):Option (Lp (Unit) (Bool)) :=
 if(decide (x.2.1<(x.2.2.Parts.length:Int)))=true then
  (AU x.2.2.Parts x.2.1)>>=fun (e12:AB) =>
  Cr (e12,(w64 (x.1+1)))>>=fun r14 =>
  if r14=true then
   Cr.l0 (x.1,(w64 (x.2.1+1)),x.2.2)
  else
   some (.ret false)
 else
  some (.brk ())
 partial_fixpoint
def Cr (x:AB × Int):Option (Bool) :=
 if(decide (x.2 > 4))=true then
  some false
 else
  if(decide (x.1.Kind<1))=true then
   some false
  else
   if(decide (x.1.Kind > 6))=true then
    some false
   else
    if(x.1.Kind != 1)=true then
     if(x.1.Truth != 0)=true then
      some false
     else
      if(x.1.Kind != 2)=true then
       if(x.1.Op != 0)=true then
        some false
       else
        if((x.1.B.Kind == 0)&&((x.1.B.Table == 0)&&((x.1.B.Col == 0)&&((!x.1.B.Value.Null)&&(x.1.B.Value.N == 0)))))=true then
         if(x.1.Kind != 3)=true then
          if((x.1.A.Kind == 0)&&((x.1.A.Table == 0)&&((x.1.A.Col == 0)&&((!x.1.A.Value.Null)&&(x.1.A.Value.N == 0)))))=true then
           Cr.l0 (x.2,0,x.1)>>=fun (o17:Lp (Unit) (Bool))=>match o17 with
           | .brk s20 =>
            if(x.1.Kind == 6)=true then
             some ((x.1.Parts.length:Int) == 1)
            else
             some (decide ((x.1.Parts.length:Int)≤4))
           | .ret r19 =>
            some r19
          else
           some false
         else
          Cr.l0 (x.2,0,x.1)>>=fun (o25:Lp (Unit) (Bool))=>match o25 with
          | .brk s28 =>
           if((x.1.Parts.length:Int) == 0)=true then
            EF x.1.A>>=fun r33 =>
            some r33
           else
            some false
          | .ret r27 =>
           some r27
        else
         some false
      else
       Cr.l0 (x.2,0,x.1)>>=fun (o35:Lp (Unit) (Bool))=>match o35 with
       | .brk s38 =>
        if((x.1.Parts.length:Int) == 0)=true then
         if(decide (x.1.Op ≥ 1))=true then
          if(decide (x.1.Op≤6))=true then
           EF x.1.A>>=fun r44 =>
           if r44=true then
            EF x.1.B>>=fun r47 =>
            some r47
           else
            some false
          else
           some false
         else
          some false
        else
         some false
       | .ret r37 =>
        some r37
    else
     if(x.1.Op != 0)=true then
      some false
     else
      if((x.1.B.Kind == 0)&&((x.1.B.Table == 0)&&((x.1.B.Col == 0)&&((!x.1.B.Value.Null)&&(x.1.B.Value.N == 0)))))=true then
       if((x.1.A.Kind == 0)&&((x.1.A.Table == 0)&&((x.1.A.Col == 0)&&((!x.1.A.Value.Null)&&(x.1.A.Value.N == 0)))))=true then
        Cr.l0 (x.2,0,x.1)>>=fun (o54:Lp (Unit) (Bool))=>match o54 with
        | .brk s57 =>
         if((x.1.Parts.length:Int) == 0)=true then
          if(decide (x.1.Truth ≥ 0))=true then
           some (decide (x.1.Truth≤2))
          else
           some false
         else
          some false
        | .ret r56 =>
         some r56
       else
        some false
      else
       some false
 partial_fixpoint
end
theorem Cr.l0.ws:PC Cr.l0 (fun x o=>∀ lo c (Q:EP) (hb:∀ s:Unit,o=Lp.brk s→Q (.exit 0) ⟨[(2,.lref 2 0)],[(2,[.v (.i64 x.2.2.Kind),.v (.i64 x.2.2.Truth),.v (.i64 x.2.2.Op),.v (.i64 x.2.2.A.Kind),.v (.i64 x.2.2.A.Table),.v (.i64 x.2.2.A.Col),.v (.bool x.2.2.A.Value.Null),.v (.i64 x.2.2.A.Value.N),.v (.i64 x.2.2.B.Kind),.v (.i64 x.2.2.B.Table),.v (.i64 x.2.2.B.Col),.v (.bool x.2.2.B.Value.Null),.v (.i64 x.2.2.B.Value.N),.v (.slice .foreign (x.2.2.Parts.map AB.av))])]⟩) (hr:∀ (r:Bool) (L:AO),o=.ret r→DV Tryz.prog [.tmp 4] (.bool r) (fun _=>True) .ret L→Q .ret L),AK Tryz.prog 159 lo c 0 (VQ Q) ⟨[(1,.v (.i64 x.1)),(2,.lref 2 0),(6,.v (.i64 x.2.1))],[(2,[.v (.i64 x.2.2.Kind),.v (.i64 x.2.2.Truth),.v (.i64 x.2.2.Op),.v (.i64 x.2.2.A.Kind),.v (.i64 x.2.2.A.Table),.v (.i64 x.2.2.A.Col),.v (.bool x.2.2.A.Value.Null),.v (.i64 x.2.2.A.Value.N),.v (.i64 x.2.2.B.Kind),.v (.i64 x.2.2.B.Table),.v (.i64 x.2.2.B.Col),.v (.bool x.2.2.B.Value.Null),.v (.i64 x.2.2.B.Value.N),.v (.slice .foreign (x.2.2.Parts.map AB.av))])]⟩)∧PC Cr (fun x r=>Fn Tryz.prog 159 [.agg (AB.C x.1),.i64 x.2] (.bool r)):=by
 refine Cr.l0.mutual_partial_correctness _ _ ?_ ?_
 ·intro NY Zs Fq Xq x o h
  have AHR:AH NY _:=⟨Fq⟩
  have AKY:AH Zs _:=⟨Xq⟩
  intro lo c Q hb hr
  refine AK.step mix AFO (by kernel_rfl) ?_
  simp -implicitDefEqProofs only[go_sem,Tryz.f159]
  exact AR
 ·intro NY Fq x r h
  refine Fn.of_lc mix AFO AI8 (by rfl) (flC (AB.flatC _) (flC (.atom _) (flN))) (.atom _) ?_
  simp -implicitDefEqProofs only[go_sem,Tryz.f159]
  revert h;refine itE (fun h1 h=>?_) fun h1 h=>?_
  ·try simp -implicitDefEqProofs only[go_sem, *, -h]
   injection h with h;subst h
   exact AM
  ·try simp -implicitDefEqProofs only[go_sem, *, -h]
   revert h;refine itE (fun h2 h=>?_) fun h2 h=>?_
   ·try simp -implicitDefEqProofs only[go_sem, *, -h]
    injection h with h;subst h
    exact AM
   ·try simp -implicitDefEqProofs only[go_sem, *, -h]
    revert h;refine itE (fun h3 h=>?_) fun h3 h=>?_
    ·try simp -implicitDefEqProofs only[go_sem, *, -h]
     injection h with h;subst h
     exact AM
    ·try simp -implicitDefEqProofs only[go_sem, *, -h]
     revert h;refine itE (fun h4 h=>?_) fun h4 h=>?_
     ·try simp -implicitDefEqProofs only[go_sem, *, -h]
      revert h;refine itE (fun h5 h=>?_) fun h5 h=>?_
      ·try simp -implicitDefEqProofs only[go_sem, *, -h]
       injection h with h;subst h
       exact AM
      ·try simp -implicitDefEqProofs only[go_sem, *, -h]
       revert h;refine itE (fun h6 h=>?_) fun h6 h=>?_
       ·try simp -implicitDefEqProofs only[go_sem, *, -h]
        revert h;refine itE (fun h7 h=>?_) fun h7 h=>?_
        ·try simp -implicitDefEqProofs only[go_sem, *, -h]
         injection h with h;subst h
         exact AM
        ·try simp -implicitDefEqProofs only[go_sem, *, -h]
         revert h;refine itE (fun h8 h=>?_) fun h8 h=>?_
         ·try simp -implicitDefEqProofs only[go_sem, *, -h]
          revert h;refine itE (fun h9 h=>?_) fun h9 h=>?_
          ·try simp -implicitDefEqProofs only[go_sem, *, -h]
           revert h;refine itE (fun h10 h=>?_) fun h10 h=>?_
           ·try simp -implicitDefEqProofs only[go_sem, *, -h]
            obtain⟨o17,h18,h⟩:=AE h
            refine AK.viewQ (AK.view [] AM (Fq (x.2,0,x.1) _ h18 _ _ _ ?_ ?_))
            ·intro s20 hs';subst hs'
             try simp -implicitDefEqProofs only[go_sem, *, -h]
             have h21:(x.1.Kind == 1)=false:=PP h4
             try simp -implicitDefEqProofs only[go_sem, *, -h]
             have h22:(x.1.Kind == 2)=false:=PP h6
             try simp -implicitDefEqProofs only[go_sem, *, -h]
             have h23:(x.1.Kind == 3)=false:=PP h9
             try simp -implicitDefEqProofs only[go_sem, *, -h]
             revert h;refine itE (fun h24 h=>?_) fun h24 h=>?_
             ·try simp -implicitDefEqProofs only[go_sem, *, -h]
              injection h with h;subst h
              exact AM
             ·try simp -implicitDefEqProofs only[go_sem, *, -h]
              injection h with h;subst h
              exact AM
            ·intro r19 L' hs' hL';subst hs'
             injection h with h;subst h
             first | exact hL' | (simp -implicitDefEqProofs only[go_sem];exact hL') | (simp -implicitDefEqProofs only[go_sem];simp -implicitDefEqProofs only[go_sem] at hL';exact hL')
           ·try simp -implicitDefEqProofs only[go_sem, *, -h]
            injection h with h;subst h
            exact AM
          ·try simp -implicitDefEqProofs only[go_sem, *, -h]
           obtain⟨o25,h26,h⟩:=AE h
           refine AK.viewQ (AK.view [] AM (Fq (x.2,0,x.1) _ h26 _ _ _ ?_ ?_))
           ·intro s28 hs';subst hs'
            try simp -implicitDefEqProofs only[go_sem, *, -h]
            have h29:(x.1.Kind == 1)=false:=PP h4
            try simp -implicitDefEqProofs only[go_sem, *, -h]
            have h30:(x.1.Kind == 2)=false:=PP h6
            try simp -implicitDefEqProofs only[go_sem, *, -h]
            have h31:(x.1.Kind == 3)=true:=YZ h9
            try simp -implicitDefEqProofs only[go_sem, *, -h]
            revert h;refine itE (fun h32 h=>?_) fun h32 h=>?_
            ·try simp -implicitDefEqProofs only[go_sem, *, -h]
             obtain⟨r33,h34,h⟩:=AE h
             refine .plain _ _ rfl (EF.w.w x.1.A _ h34) ?_
             try simp -implicitDefEqProofs only[go_sem, *, -h]
             injection h with h;subst h
             exact AM
            ·try simp -implicitDefEqProofs only[go_sem, *, -h]
             injection h with h;subst h
             exact AM
           ·intro r27 L' hs' hL';subst hs'
            injection h with h;subst h
            first | exact hL' | (simp -implicitDefEqProofs only[go_sem];exact hL') | (simp -implicitDefEqProofs only[go_sem];simp -implicitDefEqProofs only[go_sem] at hL';exact hL')
         ·try simp -implicitDefEqProofs only[go_sem, *, -h]
          injection h with h;subst h
          exact AM
       ·try simp -implicitDefEqProofs only[go_sem, *, -h]
        obtain⟨o35,h36,h⟩:=AE h
        refine AK.viewQ (AK.view [] AM (Fq (x.2,0,x.1) _ h36 _ _ _ ?_ ?_))
        ·intro s38 hs';subst hs'
         try simp -implicitDefEqProofs only[go_sem, *, -h]
         have h39:(x.1.Kind == 1)=false:=PP h4
         try simp -implicitDefEqProofs only[go_sem, *, -h]
         have h40:(x.1.Kind == 2)=true:=YZ h6
         try simp -implicitDefEqProofs only[go_sem, *, -h]
         revert h;refine itE (fun h41 h=>?_) fun h41 h=>?_
         ·try simp -implicitDefEqProofs only[go_sem, *, -h]
          revert h;refine itE (fun h42 h=>?_) fun h42 h=>?_
          ·try simp -implicitDefEqProofs only[go_sem, *, -h]
           revert h;refine itE (fun h43 h=>?_) fun h43 h=>?_
           ·try simp -implicitDefEqProofs only[go_sem, *, -h]
            obtain⟨r44,h45,h⟩:=AE h
            refine .plain _ _ rfl (EF.w.w x.1.A _ h45) ?_
            try simp -implicitDefEqProofs only[go_sem, *, -h]
            revert h;refine itE (fun h46 h=>?_) fun h46 h=>?_
            ·try simp -implicitDefEqProofs only[go_sem, *, -h]
             obtain⟨r47,h48,h⟩:=AE h
             refine .plain _ _ rfl (EF.w.w x.1.B _ h48) ?_
             try simp -implicitDefEqProofs only[go_sem, *, -h]
             injection h with h;subst h
             exact AM
            ·try simp -implicitDefEqProofs only[go_sem, *, -h]
             injection h with h;subst h
             exact AM
           ·try simp -implicitDefEqProofs only[go_sem, *, -h]
            injection h with h;subst h
            exact AM
          ·try simp -implicitDefEqProofs only[go_sem, *, -h]
           injection h with h;subst h
           exact AM
         ·try simp -implicitDefEqProofs only[go_sem, *, -h]
          injection h with h;subst h
          exact AM
        ·intro r37 L' hs' hL';subst hs'
         injection h with h;subst h
         first | exact hL' | (simp -implicitDefEqProofs only[go_sem];exact hL') | (simp -implicitDefEqProofs only[go_sem];simp -implicitDefEqProofs only[go_sem] at hL';exact hL')
     ·try simp -implicitDefEqProofs only[go_sem, *, -h]
      have h49:(x.1.Kind != 2)=true:=by rw[ALH h4];rfl
      try simp -implicitDefEqProofs only[go_sem, *, -h]
      revert h;refine itE (fun h50 h=>?_) fun h50 h=>?_
      ·try simp -implicitDefEqProofs only[go_sem, *, -h]
       injection h with h;subst h
       exact AM
      ·try simp -implicitDefEqProofs only[go_sem, *, -h]
       revert h;refine itE (fun h51 h=>?_) fun h51 h=>?_
       ·try simp -implicitDefEqProofs only[go_sem, *, -h]
        have h52:(x.1.Kind != 3)=true:=by rw[ALH h4];rfl
        try simp -implicitDefEqProofs only[go_sem, *, -h]
        revert h;refine itE (fun h53 h=>?_) fun h53 h=>?_
        ·try simp -implicitDefEqProofs only[go_sem, *, -h]
         obtain⟨o54,h55,h⟩:=AE h
         refine AK.viewQ (AK.view [] AM (Fq (x.2,0,x.1) _ h55 _ _ _ ?_ ?_))
         ·intro s57 hs';subst hs'
          try simp -implicitDefEqProofs only[go_sem, *, -h]
          have h58:(x.1.Kind == 1)=true:=YZ h4
          try simp -implicitDefEqProofs only[go_sem, *, -h]
          revert h;refine itE (fun h59 h=>?_) fun h59 h=>?_
          ·try simp -implicitDefEqProofs only[go_sem, *, -h]
           revert h;refine itE (fun h60 h=>?_) fun h60 h=>?_
           ·try simp -implicitDefEqProofs only[go_sem, *, -h]
            injection h with h;subst h
            exact AM
           ·try simp -implicitDefEqProofs only[go_sem, *, -h]
            injection h with h;subst h
            exact AM
          ·try simp -implicitDefEqProofs only[go_sem, *, -h]
           injection h with h;subst h
           exact AM
         ·intro r56 L' hs' hL';subst hs'
          injection h with h;subst h
          first | exact hL' | (simp -implicitDefEqProofs only[go_sem];exact hL') | (simp -implicitDefEqProofs only[go_sem];simp -implicitDefEqProofs only[go_sem] at hL';exact hL')
        ·try simp -implicitDefEqProofs only[go_sem, *, -h]
         injection h with h;subst h
         exact AM
       ·try simp -implicitDefEqProofs only[go_sem, *, -h]
        injection h with h;subst h
        exact AM
instance Cr.w:type_of% (AH.mk Cr.l0.ws.2):=⟨Cr.l0.ws.2⟩
end
section
theorem AJr:okF Tryz.f155=true:=by kernel_rfl
def GY (x:AB):Option (Bool) :=
 Cr (x,1)>>=fun r1 =>
 some r1
instance GY.w:AH GY (fun x r=>Fn Tryz.prog 155 [.agg (AB.C x)] (.bool r)):=⟨by
 intro x r h
 rw[GY] at h
 try dsimp only
 refine Fn.of_lc mix ALf AJr (by rfl) (flC (AB.flatC _) (flN)) (.atom _) ?_
 simp -implicitDefEqProofs only[go_sem,Tryz.f155]
 exact AR⟩
end
section
theorem AIX:okF Tryz.f116=true:=by kernel_rfl
def Du (x:BF):Option (AC) :=
 if(x.Kind != 1)=true then
  some (0#64)
 else
  BE ([x.Table])>>=fun r2 =>
  some r2
instance Du.w:AH Du (fun x r=>Fn Tryz.prog 116 [.agg (BF.C x)] (.w r)):=⟨by
 intro x r h
 rw[Du] at h
 try dsimp only
 refine Fn.of_lc mix AKm AIX (by rfl) (flC (BF.flatC _) (flN)) (.atom _) ?_
 simp -implicitDefEqProofs only[go_sem,Tryz.f116]
 exact AR⟩
end
section
@[go_sem] theorem APu:lrp Tryz.prog 85 1=(8,[]):=by kernel_rfl
theorem ALe:okF Tryz.f85=true:=by kernel_rfl
mutual
def BH.l0 (x:AC × Int × AB):Option (AC) :=
 if(decide (x.2.1<(x.2.2.Parts.length:Int)))=true then
  (AU x.2.2.Parts x.2.1)>>=fun (e6:AB) =>
  BH e6>>=fun r8 =>
  BH.l0 ((x.1|||r8),(w64 (x.2.1+1)),x.2.2)
 else
  some x.1
 partial_fixpoint
def BH (x:AB):Option (AC) :=
 Du x.A>>=fun r1 =>
 Du x.B>>=fun r3 =>
 BH.l0 ((r1|||r3),0,x)>>=fun (o10:AC) =>
 some o10
 partial_fixpoint
end
theorem BH.l0.ws:PC BH.l0 (fun x o=>∀ lo c (Q:EP) (hb:∀ s:AC,o=s→Q (.exit 0) ⟨[(3,.v (.w s))],[]⟩),AK Tryz.prog 85 lo c 0 (VQ Q) ⟨[(1,.lref 1 0),(3,.v (.w x.1)),(4,.v (.i64 x.2.1))],[(1,[.v (.i64 x.2.2.Kind),.v (.i64 x.2.2.Truth),.v (.i64 x.2.2.Op),.v (.i64 x.2.2.A.Kind),.v (.i64 x.2.2.A.Table),.v (.i64 x.2.2.A.Col),.v (.bool x.2.2.A.Value.Null),.v (.i64 x.2.2.A.Value.N),.v (.i64 x.2.2.B.Kind),.v (.i64 x.2.2.B.Table),.v (.i64 x.2.2.B.Col),.v (.bool x.2.2.B.Value.Null),.v (.i64 x.2.2.B.Value.N),.v (.slice .foreign (x.2.2.Parts.map AB.av))])]⟩)∧PC BH (fun x r=>Fn Tryz.prog 85 [.agg (AB.C x)] (.w r)):=by
 refine BH.l0.mutual_partial_correctness _ _ ?_ ?_
 ·intro Ib Ts IG SF x o h
  have Pq:AH Ib _:=⟨IG⟩
  have AGh:AH Ts _:=⟨SF⟩
  intro lo c Q hb
  refine AK.step mix AHb (by kernel_rfl) ?_
  simp -implicitDefEqProofs only[go_sem,Tryz.f85]
  exact AR
 ·intro Ib IG x r h
  have Pq:AH Ib _:=⟨IG⟩
  refine Fn.of_lc mix AHb ALe (by rfl) (flC (AB.flatC _) (flN)) (.atom _) ?_
  simp -implicitDefEqProofs only[go_sem,Tryz.f85]
  exact AR
instance BH.w:type_of% (AH.mk BH.l0.ws.2):=⟨BH.l0.ws.2⟩
end
section
@[go_sem] theorem AOT:lrp Tryz.prog 139 7=(34,[]):=by kernel_rfl
theorem AI5:okF Tryz.f139=true:=by kernel_rfl
def CK.l0 (x:List Int × AC × AC × List CG × Int × AB):Option (Lp (Unit) (Int)) :=
 if(decide (x.2.2.2.2.1<(x.2.2.2.1.length:Int)))=true then
  (AU x.2.2.2.1 x.2.2.2.2.1)>>=fun (e7:CG) =>
  CU (x.2.1,e7.e0)>>=fun r9 =>
  if r9=true then
   (AU x.1 e7.e0)>>=fun (e12:Int) =>
   if(decide (e7.e1 ≥ e12))=true then
    some (.ret 10)
   else
    CK.l0 (x.1,x.2.1,x.2.2.1,x.2.2.2.1,(w64 (x.2.2.2.2.1+1)),x.2.2.2.2.2)
  else
   CU (x.2.2.1,e7.e0)>>=fun r15 =>
   if r15=true then
    (AU x.1 e7.e0)>>=fun (e18:Int) =>
    if(decide (e7.e1 ≥ e18))=true then
     some (.ret 10)
    else
     CK.l0 (x.1,x.2.1,x.2.2.1,x.2.2.2.1,(w64 (x.2.2.2.2.1+1)),x.2.2.2.2.2)
   else
    some (.ret 10)
 else
  some (.brk ())
 partial_fixpoint
theorem CK.l0.ws:PC CK.l0 (fun x o=>∀ lo c (Q:EP) (hb:∀ s:Unit,o=Lp.brk s→Q (.exit 0) ⟨[(2,.v (.w x.2.1)),(3,.v (.w x.2.2.1)),(4,.lref 4 0)],[(4,[.v (.i64 x.2.2.2.2.2.Kind),.v (.i64 x.2.2.2.2.2.Truth),.v (.i64 x.2.2.2.2.2.Op),.v (.i64 x.2.2.2.2.2.A.Kind),.v (.i64 x.2.2.2.2.2.A.Table),.v (.i64 x.2.2.2.2.2.A.Col),.v (.bool x.2.2.2.2.2.A.Value.Null),.v (.i64 x.2.2.2.2.2.A.Value.N),.v (.i64 x.2.2.2.2.2.B.Kind),.v (.i64 x.2.2.2.2.2.B.Table),.v (.i64 x.2.2.2.2.2.B.Col),.v (.bool x.2.2.2.2.2.B.Value.Null),.v (.i64 x.2.2.2.2.2.B.Value.N),.v (.slice .foreign (x.2.2.2.2.2.Parts.map AB.av))])]⟩) (hr:∀ (r:Int) (L:AO),o=.ret r→DV Tryz.prog [.tmp 8] (.i64 r) (fun _=>True) .ret L→Q .ret L),AK Tryz.prog 139 lo c 0 (VQ Q) ⟨[(1,.v (.slice .foreign (x.1.map AV.i64))),(2,.v (.w x.2.1)),(3,.v (.w x.2.2.1)),(4,.lref 4 0),(9,.v (.slice .foreign (x.2.2.2.1.map CG.av))),(10,.v (.i64 x.2.2.2.2.1))],[(4,[.v (.i64 x.2.2.2.2.2.Kind),.v (.i64 x.2.2.2.2.2.Truth),.v (.i64 x.2.2.2.2.2.Op),.v (.i64 x.2.2.2.2.2.A.Kind),.v (.i64 x.2.2.2.2.2.A.Table),.v (.i64 x.2.2.2.2.2.A.Col),.v (.bool x.2.2.2.2.2.A.Value.Null),.v (.i64 x.2.2.2.2.2.A.Value.N),.v (.i64 x.2.2.2.2.2.B.Kind),.v (.i64 x.2.2.2.2.2.B.Table),.v (.i64 x.2.2.2.2.2.B.Col),.v (.bool x.2.2.2.2.2.B.Value.Null),.v (.i64 x.2.2.2.2.2.B.Value.N),.v (.slice .foreign (x.2.2.2.2.2.Parts.map AB.av))])]⟩):=by
 refine CK.l0.partial_correctness _ ?_
 ·intro SO Qt x o h
  have AF0:AH SO _:=⟨Qt⟩
  intro lo c Q hb hr
  refine AK.step mix ADp (by kernel_rfl) ?_
  simp -implicitDefEqProofs only[go_sem,Tryz.f139]
  exact AR
instance CK.l0.w:type_of% (AH.mk CK.l0.ws):=⟨CK.l0.ws⟩
def CK (x:AB × List Int × AC × AC):Option (Int) :=
 GY x.1>>=fun r1 =>
 if r1=true then
  BX x.1>>=fun r4 =>
  CK.l0 (x.2.1,x.2.2.1,x.2.2.2,r4,0,x.1)>>=fun (o21:Lp (Unit) (Int))=>match o21 with
  | .brk s24 =>
   BH x.1>>=fun r25 =>
   if((r25&&&x.2.2.1) == 0#64)=true then
    some 11
   else
    if((r25&&&x.2.2.2) == 0#64)=true then
     some 11
    else
     some 0
  | .ret r23 =>
   some r23
 else
  some 9
instance CK.w:AH CK (fun x r=>Fn Tryz.prog 139 [.agg (AB.C x.1),.slice .foreign (x.2.1.map AV.i64),.w x.2.2.1,.w x.2.2.2] (.i64 r)):=⟨by
 intro x r h
 rw[CK] at h
 try dsimp only
 refine Fn.of_lc mix ADp AI5 (by rfl) (flC (AB.flatC _) (flC (AT _ (fun _=>.atom _) _) (flC (.atom _) (flC (.atom _) (flN))))) (.atom _) ?_
 simp -implicitDefEqProofs only[go_sem,Tryz.f139]
 exact AR⟩
end
section
@[go_sem] theorem ANA:lrp Tryz.prog 114 15=(7,[]):=by kernel_rfl
@[go_sem] theorem AMy:lrp Tryz.prog 114 27=(18,[]):=by kernel_rfl
theorem AIl:okF Tryz.f114=true:=by kernel_rfl
def BZ.l0 (x:List Int × Int × AA):Option (Lp (Unit) (Int)) :=
 if(decide (x.2.1<(x.1.length:Int)))=true then
  (AU x.1 x.2.1)>>=fun (e10:Int) =>
  if(e10 == x.2.2.Table)=true then
   some (.ret 6)
  else
   BZ.l0 (x.1,(w64 (x.2.1+1)),x.2.2)
 else
  some (.brk ())
 partial_fixpoint
theorem BZ.l0.ws:PC BZ.l0 (fun x o=>∀ lo c (Q:EP) (hb:∀ s:Unit,o=Lp.brk s→Q (.exit 0) ⟨[],[]⟩) (hr:∀ (r:Int) (L:AO),o=.ret r→DV Tryz.prog [.tmp 8] (.i64 r) (fun _=>True) .ret L→Q .ret L),AK Tryz.prog 114 lo c 0 (VQ Q) ⟨[(2,.v (.slice .foreign (x.1.map AV.i64))),(4,.lref 4 0),(9,.v (.i64 x.2.1))],[(4,[.v (.i64 x.2.2.Kind),.v (.i64 x.2.2.Table),.v (.slice .foreign (x.2.2.Kids.map AA.av)),.v (.slice .foreign (x.2.2.Conj.map AB.av)),.v (.bool x.2.2.Hash)])]⟩):=by
 refine BZ.l0.partial_correctness _ ?_
 ·intro TT Sg x o h
  have AHH:AH TT _:=⟨Sg⟩
  intro lo c Q hb hr
  refine AK.step mix Zm (by kernel_rfl) ?_
  simp -implicitDefEqProofs only[go_sem,Tryz.f114]
  exact AR
instance BZ.l0.w:type_of% (AH.mk BZ.l0.ws):=⟨BZ.l0.ws⟩
def BZ.l1 (x:List Int × Int × AA):Option (Lp (Unit) (Int)) :=
 if(decide (x.2.1<(x.2.2.Conj.length:Int)))=true then
  (AU x.2.2.Conj x.2.1)>>=fun (e22:AB) =>
  (x.2.2.Kids[0]?)>>=fun (e24:AA) =>
  BU e24>>=fun r26 =>
  (x.2.2.Kids[1]?)>>=fun (e28:AA) =>
  BU e28>>=fun r30 =>
  CK (e22,x.1,r26,r30)>>=fun r32 =>
  if(r32 != 0)=true then
   some (.ret r32)
  else
   BZ.l1 (x.1,(w64 (x.2.1+1)),x.2.2)
 else
  some (.brk ())
 partial_fixpoint
theorem BZ.l1.ws:PC BZ.l1 (fun x o=>∀ lo c (Q:EP) (hb:∀ s:Unit,o=Lp.brk s→Q (.exit 2) ⟨[],[]⟩) (hr:∀ (r:Int) (L:AO),o=.ret r→DV Tryz.prog [.tmp 8] (.i64 r) (fun _=>True) .ret L→Q .ret L),AK Tryz.prog 114 lo c 1 (VQ Q) ⟨[(1,.v (.slice .foreign (x.1.map AV.i64))),(4,.lref 4 0),(10,.v (.i64 x.2.1))],[(4,[.v (.i64 x.2.2.Kind),.v (.i64 x.2.2.Table),.v (.slice .foreign (x.2.2.Kids.map AA.av)),.v (.slice .foreign (x.2.2.Conj.map AB.av)),.v (.bool x.2.2.Hash)])]⟩):=by
 refine BZ.l1.partial_correctness _ ?_
 ·intro Tr SV x o h
  have AF3:AH Tr _:=⟨SV⟩
  intro lo c Q hb hr
  refine AK.step mix Zm (by kernel_rfl) ?_
  simp -implicitDefEqProofs only[go_sem,Tryz.f114]
  exact AR
instance BZ.l1.w:type_of% (AH.mk BZ.l1.ws):=⟨BZ.l1.ws⟩
def BZ (x:AA × List Int × List Int × Int):Option (Int) :=
 if(decide (x.1.Kind<0))=true then
  some 4
 else
  if(decide (x.1.Kind > 4))=true then
   some 4
  else
   if(x.1.Kind == 0)=true then
    if x.1.Hash=true then
     some 4
    else
     if(decide ((x.1.Kids.length:Int) > 0))=true then
      some 7
     else
      if(decide ((x.1.Conj.length:Int) > 0))=true then
       some 8
      else
       if(decide (x.1.Table<0))=true then
        some 5
       else
        if(decide (x.1.Table ≥ (x.2.1.length:Int)))=true then
         some 5
        else
         BZ.l0 (x.2.2.1,0,x.1)>>=fun (o13:Lp (Unit) (Int))=>match o13 with
         | .brk s16 =>
          some 0
         | .ret r15 =>
          some r15
   else
    if((x.1.Kids.length:Int) != 2)=true then
     some 7
    else
     if((x.1.Conj.length:Int) == 0)=true then
      some 8
     else
      if(decide ((w64 (x.2.2.2+(x.1.Conj.length:Int))) > 64))=true then
       some 8
      else
       if(x.1.Table != 0)=true then
        some 5
       else
        BZ.l1 (x.2.1,0,x.1)>>=fun (o35:Lp (Unit) (Int))=>match o35 with
        | .brk s38 =>
         some 0
        | .ret r37 =>
         some r37
instance BZ.w:AH BZ (fun x r=>Fn Tryz.prog 114 [.agg (AA.C x.1),.slice .foreign (x.2.1.map AV.i64),.slice .foreign (x.2.2.1.map AV.i64),.i64 x.2.2.2] (.i64 r)):=⟨by
 intro x r h
 rw[BZ] at h
 try dsimp only
 refine Fn.of_lc mix Zm AIl (by rfl) (flC (AA.flatC _) (flC (AT _ (fun _=>.atom _) _) (flC (AT _ (fun _=>.atom _) _) (flC (.atom _) (flN))))) (.atom _) ?_
 simp -implicitDefEqProofs only[go_sem,Tryz.f114]
 exact AR⟩
end
section
@[go_sem] theorem AOQ:lrp Tryz.prog 81 14=(10,[]):=by kernel_rfl
theorem ALj:okF Tryz.f81=true:=by kernel_rfl
def Am.l0 (x:Int × BY):Option (Lp (Unit) (Int)) :=
 if(decide (x.1<(x.2.Cols.length:Int)))=true then
  (AU x.2.Cols x.1)>>=fun (e3:Int) =>
  if(decide (e3<1))=true then
   some (.ret 12)
  else
   if(decide (e3 > 4))=true then
    some (.ret 12)
   else
    Am.l0 ((w64 (x.1+1)),x.2)
 else
  some (.brk ())
 partial_fixpoint
theorem Am.l0.ws:PC Am.l0 (fun x o=>∀ lo c (Q:EP) (hb:∀ s:Unit,o=Lp.brk s→Q (.exit 0) ⟨[(1,.lref 1 0)],[(1,[.v (.slice .foreign (x.2.Cols.map AV.i64)),.v (.i64 x.2.Root.Kind),.v (.i64 x.2.Root.Table),.v (.slice .foreign (x.2.Root.Kids.map AA.av)),.v (.slice .foreign (x.2.Root.Conj.map AB.av)),.v (.bool x.2.Root.Hash)])]⟩) (hr:∀ (r:Int) (L:AO),o=.ret r→DV Tryz.prog [.tmp 2] (.i64 r) (fun _=>True) .ret L→Q .ret L),AK Tryz.prog 81 lo c 0 (VQ Q) ⟨[(1,.lref 1 0),(3,.v (.i64 x.1))],[(1,[.v (.slice .foreign (x.2.Cols.map AV.i64)),.v (.i64 x.2.Root.Kind),.v (.i64 x.2.Root.Table),.v (.slice .foreign (x.2.Root.Kids.map AA.av)),.v (.slice .foreign (x.2.Root.Conj.map AB.av)),.v (.bool x.2.Root.Hash)])]⟩):=by
 refine Am.l0.partial_correctness _ ?_
 ·intro Qk Pp x o h
  have AFH:AH Qk _:=⟨Pp⟩
  intro lo c Q hb hr
  refine AK.step mix ACM (by kernel_rfl) ?_
  simp -implicitDefEqProofs only[go_sem,Tryz.f81]
  exact AR
instance Am.l0.w:type_of% (AH.mk Am.l0.ws):=⟨Am.l0.ws⟩
def Am.l1 (x:List AA × List Int × Int × Int × BY):Option (Lp (Unit) (Int)) :=
 if(decide (x.2.2.2.1<(x.1.length:Int)))=true then
  (AU x.1 x.2.2.2.1)>>=fun (e14:AA) =>
  BZ (e14,x.2.2.2.2.Cols,x.2.1,x.2.2.1)>>=fun r16 =>
  if(r16 != 0)=true then
   some (.ret r16)
  else
   if(e14.Kind == 0)=true then
    (room 8 x.2.1 ([e14.Table]))>>=fun (z20:List Int) =>
    Am.l1 (x.1,z20,(w64 (x.2.2.1+(e14.Conj.length:Int))),(w64 (x.2.2.2.1+1)),x.2.2.2.2)
   else
    Am.l1 (x.1,x.2.1,(w64 (x.2.2.1+(e14.Conj.length:Int))),(w64 (x.2.2.2.1+1)),x.2.2.2.2)
 else
  some (.brk ())
 partial_fixpoint
theorem Am.l1.ws:PC Am.l1 (fun x o=>∀ lo c (Q:EP) (hb:∀ s:Unit,o=Lp.brk s→Q (.exit 2) ⟨[],[]⟩) (hr:∀ (r:Int) (L:AO),o=.ret r→DV Tryz.prog [.tmp 2] (.i64 r) (fun _=>True) .ret L→Q .ret L),AK Tryz.prog 81 lo c 1 (VQ Q) ⟨[(1,.lref 1 0),(4,.v (.slice .foreign (x.1.map AA.av))),(5,.own 100500 1 (x.2.1.map AV.i64)),(6,.v (.i64 x.2.2.1)),(7,.v (.i64 x.2.2.2.1))],[(1,[.v (.slice .foreign (x.2.2.2.2.Cols.map AV.i64)),.v (.i64 x.2.2.2.2.Root.Kind),.v (.i64 x.2.2.2.2.Root.Table),.v (.slice .foreign (x.2.2.2.2.Root.Kids.map AA.av)),.v (.slice .foreign (x.2.2.2.2.Root.Conj.map AB.av)),.v (.bool x.2.2.2.2.Root.Hash)])]⟩):=by
 refine Am.l1.partial_correctness _ ?_
 ·intro RP Ps x o h
  have ADu:AH RP _:=⟨Ps⟩
  intro lo c Q hb hr
  refine AK.step mix ACM (by kernel_rfl) ?_
  simp -implicitDefEqProofs only[go_sem,Tryz.f81]
  exact AR
instance Am.l1.w:type_of% (AH.mk Am.l1.ws):=⟨Am.l1.ws⟩
def Am (x:BY):Option (Int) :=
 if(decide ((x.Cols.length:Int) > 64))=true then
  some 2
 else
  Am.l0 (0,x)>>=fun (o7:Lp (Unit) (Int))=>match o7 with
  | .brk s10 =>
   Bp x.Root>>=fun r11 =>
   Am.l1 (r11,([]:List Int),0,0,x)>>=fun (o22:Lp (Unit) (Int))=>match o22 with
   | .brk s25 =>
    some 0
   | .ret r24 =>
    some r24
  | .ret r9 =>
   some r9
instance Am.w:AH Am (fun x r=>Fn Tryz.prog 81 [.agg (BY.C x)] (.i64 r)):=⟨by
 intro x r h
 rw[Am] at h
 try dsimp only
 refine Fn.of_lc mix ACM ALj (by rfl) (flC (BY.flatC _) (flN)) (.atom _) ?_
 simp -implicitDefEqProofs only[go_sem,Tryz.f81]
 exact AR⟩
end
section
theorem AK6:okF Tryz.f39=true:=by kernel_rfl
def HM (x:BY):Option (Bool) :=
 Am x>>=fun r1 =>
 some (r1 == 0)
instance HM.w:AH HM (fun x r=>Fn Tryz.prog 39 [.agg (BY.C x)] (.bool r)):=⟨by
 intro x r h
 rw[HM] at h
 try dsimp only
 refine Fn.of_lc mix AMo AK6 (by rfl) (flC (BY.flatC _) (flN)) (.atom _) ?_
 simp -implicitDefEqProofs only[go_sem,Tryz.f39]
 exact AR⟩
end
section
theorem AKe:okF Tryz.f38=true:=by kernel_rfl
def IY (x:BY):Option (Bool) :=
 Aw (x.Root,601)>>=fun r1 =>
 some (decide (r1≤600))
instance IY.w:AH IY (fun x r=>Fn Tryz.prog 38 [.agg (BY.C x)] (.bool r)):=⟨by
 intro x r h
 rw[IY] at h
 try dsimp only
 refine Fn.of_lc mix ANV AKe (by rfl) (flC (BY.flatC _) (flN)) (.atom _) ?_
 simp -implicitDefEqProofs only[go_sem,Tryz.f38]
 exact AR⟩
end
section
def Ny (t:BF):AC:=if t.Kind=1 then AN t.Table else 0#64
theorem XF (t:BF):Du t=some (Ny t):=by
 unfold Du Ny
 by_cases h:t.Kind=1
 ·rw[if_neg (by simpa using h),if_pos h,Jg _ (by simp)]
  simp -implicitDefEqProofs only[Option.bind_eq_bind,Option.bind_some]
  rw[GZ,Hs,BitVec.or_zero]
 ·rw[if_pos (by simpa using h),if_neg h]
def AB.tabs:AB→AC
 | ⟨_,_,_,a,b,ps⟩=>Ny a|||Ny b|||tabsL ps
where tabsL:List AB→AC
 | []=>0#64
 | x :: l=>x.tabs|||tabsL l
theorem AGl (p:AB):p.tabs=Ny p.A|||Ny p.B|||AB.tabs.tabsL p.Parts:=by
 obtain⟨a,b,c,d,e,ps⟩:=p
 simp only[AB.tabs]
theorem KR {p x:AB} (h:x∈p.Parts):x.size<p.size:=by
 have:=Wy AB.size h
 rw[Im p];omega
theorem KS (p:AB):p.Parts.length<p.size:=by
 have:=Me AB.size KU p.Parts
 rw[Im];omega
theorem KQ {t:AA} {p:AB} (h:p∈t.Conj):p.size<t.size:=by
 have:=Wy AB.size h
 rw[DX t];omega
theorem NN (p:AB):p.size≤1000000000→BH p=some p.tabs:=by
 induction p using AB.induct with
 | h p ih =>
  intro hsz
  have hpl:=KS p
  have key:=In p.Parts (fun i (s:AC)=>BH.l0 (s,(i:Int),p)) (fun s l=>some (s|||AB.tabs.tabsL l)) (fun s=>by
    show BH.l0 _=_
    rw[BH.l0,if_neg (dge (by dsimp only;omega))]
    simp only[AB.tabs.tabsL,BitVec.or_zero])
   (fun i s h ih2=>by
    show BH.l0 _=_
    rw[BH.l0,if_pos (dlt (by dsimp only;omega))]
    dsimp only
    rw[Ai h]
    have hm:=List.getElem_mem h
    have hs:=KR hm
    simp -implicitDefEqProofs only[Option.bind_eq_bind,Option.bind_some]
    rw[ih _ hm (by omega)]
    simp -implicitDefEqProofs only[Option.bind_some]
    rw[Aa (by omega)]
    have:=ih2 (s|||p.Parts[i].tabs)
    rw[this]
    simp only[AB.tabs.tabsL,BitVec.or_assoc]) (Ny p.A|||Ny p.B)
  rw[BH,XF,XF]
  have key':BH.l0 ((Ny p.A|||Ny p.B),0,p)=_:=key
  simp -implicitDefEqProofs only[Option.bind_eq_bind,Option.bind_some]
  rw[key',AGl];rfl
def AB.cols:AB→List CG
 | ⟨_,_,_,a,b,ps⟩=>(if a.Kind=1 then [⟨a.Table,a.Col⟩] else [])++(if b.Kind=1 then [⟨b.Table,b.Col⟩] else [])++colsL ps
where colsL:List AB→List CG
 | []=>[]
 | x :: l=>x.cols++colsL l
theorem Yo (p:AB):p.cols=(if p.A.Kind=1 then [⟨p.A.Table,p.A.Col⟩] else [])++(if p.B.Kind=1 then [⟨p.B.Table,p.B.Col⟩] else [])++AB.cols.colsL p.Parts:=by
 obtain⟨a,b,c,d,e,ps⟩:=p
 simp only[AB.cols]
theorem QT (p:AB):p.cols.length≤2 * p.size:=by
 induction p using AB.induct with
 | h p ih =>
  have hl:∀ l:List AB,(∀ x∈l,x.cols.length≤2 * x.size)→(AB.cols.colsL l).length≤2 * (l.map AB.size).sum:=by
   intro l
   induction l with
   | nil=>intro _;simp[AB.cols.colsL]
   | cons x l ih2 =>
    intro h
    have h1:=h x List.mem_cons_self
    have h2:=ih2 fun y hy=>h y (List.mem_cons_of_mem _ hy)
    simp only[AB.cols.colsL,List.length_append,List.map_cons,List.sum_cons];omega
  have:=hl p.Parts ih
  rw[Yo,Im,List.length_append,List.length_append]
  have e1:(if p.A.Kind=1 then [(⟨p.A.Table,p.A.Col⟩:CG)] else []).length≤1:=by split <;> simp
  have e2:(if p.B.Kind=1 then [(⟨p.B.Table,p.B.Col⟩:CG)] else []).length≤1:=by split <;> simp
  omega
theorem Te (p:AB):p.size≤1000000000→BX p=some p.cols:=by
 induction p using AB.induct with
 | h p ih =>
  intro hsz
  have hpl:=KS p
  have hcl:=QT p
  have key:∀ acc0:List CG,acc0.length≤2→BX.l0 (acc0,0,p)=some (acc0++AB.cols.colsL p.Parts):=by
   intro acc0 h0
   have:=Gb p.Parts (fun i acc=>acc.length≤2+2 * ((p.Parts.take i).map AB.size).sum) (fun i (acc:List CG)=>BX.l0 (acc,(i:Int),p)) (fun acc l=>some (acc++AB.cols.colsL l)) (fun acc _=>by
     show BX.l0 _=_
     rw[BX.l0,if_neg (dge (by dsimp only;omega))]
     simp only[AB.cols.colsL,List.append_nil])
    (fun i acc h ha ih2=>by
     show BX.l0 _=_
     rw[BX.l0,if_pos (dlt (by dsimp only;omega))]
     dsimp only
     rw[Ai h]
     have hm:=List.getElem_mem h
     have hs:=KR hm
     have hc:=QT p.Parts[i]
     have htake:((p.Parts.take i).map AB.size).sum+p.Parts[i].size≤(p.Parts.map AB.size).sum:=by
      have e:p.Parts=p.Parts.take i++p.Parts[i] :: p.Parts.drop (i+1):=by rw[← List.drop_eq_getElem_cons h,List.take_append_drop]
      conv=>rhs;rw[e]
      simp only[List.map_append,List.map_cons,List.sum_append,List.sum_cons];omega
     have hps:=Im p
     simp -implicitDefEqProofs only[Option.bind_eq_bind,Option.bind_some]
     rw[ih _ hm (by omega)]
     simp -implicitDefEqProofs only[Option.bind_some]
     rw[Bt (by omega)]
     simp -implicitDefEqProofs only[Option.bind_some]
     rw[Aa (by omega)]
     have:=ih2 (acc++p.Parts[i].cols) (by
      rw[List.take_succ_eq_append_getElem h,List.map_append,List.sum_append,List.length_append]
      simp only[List.map_cons,List.map_nil,List.sum_cons,List.sum_nil];omega)
     rw[this]
     simp only[AB.cols.colsL,List.append_assoc]) 0 acc0 (Nat.zero_le _) (by simpa using h0)
   rw[List.drop_zero] at this
   exact this
  rw[BX,Yo]
  by_cases hA:p.A.Kind=1
  ·rw[if_pos (by simpa using hA),if_pos hA,Bt (by simp)]
   simp -implicitDefEqProofs only[Option.bind_eq_bind,Option.bind_some,List.nil_append]
   by_cases hB:p.B.Kind=1
   ·rw[if_pos (by simpa using hB),if_pos hB,Bt (by simp)]
    simp -implicitDefEqProofs only[Option.bind_some]
    rw[key _ (by simp)];rfl
   ·rw[if_neg (by simpa using hB),if_neg hB,key _ (by simp)]
    simp
  ·rw[if_neg (by simpa using hA),if_neg hA]
   by_cases hB:p.B.Kind=1
   ·rw[if_pos (by simpa using hB),if_pos hB,Bt (by simp)]
    simp -implicitDefEqProofs only[Option.bind_eq_bind,Option.bind_some,List.nil_append]
    rw[key _ (by simp)];rfl
   ·rw[if_neg (by simpa using hB),if_neg hB,key _ (by simp)]
    simp
def AA.seen:AA→AC
 | ⟨k,t,ks,_,_⟩=>if k=0 then AN t else if k=3∨k=4 then seen1 ks else seenL ks
where
 seen1:List AA→AC
 | []=>0#64
 | x :: _=>x.seen
 seenL:List AA→AC
 | []=>0#64
 | x :: l=>x.seen|||seenL l
theorem ABU (t:AA):t.seen=if t.Kind=0 then AN t.Table else if t.Kind=3∨t.Kind=4 then AA.seen.seen1 t.Kids else AA.seen.seenL t.Kids:=by
 obtain⟨a,b,ks,c,d⟩:=t
 simp only[AA.seen]
theorem Pd (t:AA):t.size≤1000000000→BU t=some t.seen:=by
 induction t using AA.induct with
 | h t ih =>
  intro hsz
  have hkl:=NG t
  rw[BU,ABU]
  by_cases h0:t.Kind=0
  ·rw[if_pos (by simpa using h0),if_pos h0,Jg _ (by simp)]
   simp -implicitDefEqProofs only[Option.bind_eq_bind,Option.bind_some]
   rw[GZ,Hs,BitVec.or_zero]
  ·rw[if_neg (by simpa using h0),if_neg h0]
   by_cases h34:t.Kind=3∨t.Kind=4
   ·rw[if_pos h34]
    have key:∀ n i s,t.Kids.length - i=n→1≤i→i≤t.Kids.length→BU.l0 (s,(i:Int),t)=some s:=by
     intro n
     induction n with
     | zero =>
      intro i s h1 h2 h3
      obtain rfl:i=t.Kids.length:=by omega
      rw[BU.l0,if_neg (dge (by dsimp only;omega))]
     | succ n ih2 =>
      intro i s h1 h2 h3
      have hi:i<t.Kids.length:=by omega
      rw[BU.l0,if_pos (dlt (by dsimp only;omega))]
      dsimp only
      rw[if_neg (by simp;omega),Aa (by omega),ih2 (i+1) s (by omega) (by omega) (by omega)]
      rcases h34 with h | h
      ·rw[if_neg (by simp[h])]
      ·rw[if_pos (by simp[h]),if_neg (by simp[h])]
    cases hk:t.Kids with
    | nil =>
     rw[BU.l0,if_neg (by simp[hk])];rfl
    | cons x l =>
     have hx:x∈t.Kids:=by rw[hk];simp
     have hxs:=Cc hx
     rw[BU.l0,if_pos (dlt (by dsimp only;rw[hk];simp only[List.length_cons];omega))]
     dsimp only
     have g0:AU t.Kids 0=some x:=by rw[hk];rfl
     rw[if_pos (by decide),g0]
     simp -implicitDefEqProofs only[Option.bind_eq_bind,Option.bind_some]
     rw[ih x hx (by omega)]
     simp -implicitDefEqProofs only[Option.bind_some]
     have w1:w64 (0+1)=((1:Nat):Int):=by decide
     rw[w1,key (t.Kids.length - 1) 1 _ (by omega) (by omega) (by rw[hk];simp)]
     simp only[AA.seen.seen1,BitVec.zero_or];rfl
   ·rw[if_neg h34]
    have key:=In t.Kids (fun i (s:AC)=>BU.l0 (s,(i:Int),t)) (fun s l=>some (s|||AA.seen.seenL l)) (fun s=>by
      show BU.l0 _=_
      rw[BU.l0,if_neg (dge (by dsimp only;omega))]
      simp only[AA.seen.seenL,BitVec.or_zero])
     (fun i s h ih2=>by
      show BU.l0 _=_
      rw[BU.l0,if_pos (dlt (by dsimp only;omega))]
      dsimp only
      have hm:=List.getElem_mem h
      have hs:=Cc hm
      rw[Ai h,Aa (by omega)]
      simp -implicitDefEqProofs only[Option.bind_eq_bind,Option.bind_some]
      rw[ih _ hm (by omega)]
      simp -implicitDefEqProofs only[Option.bind_some]
      have:=ih2 (s|||t.Kids[i].seen)
      rw[this,if_pos (show (t.Kind != 3)=true by simp;omega),if_pos (show (t.Kind != 4)=true by simp;omega)]
      simp only[AA.seen.seenL,BitVec.or_assoc,ite_self]) 0#64
    have key':BU.l0 (0#64,0,t)=_:=key
    rw[key']
    simp -implicitDefEqProofs only[Option.bind_eq_bind,Option.bind_some,BitVec.zero_or]
theorem CM {α:Type} {c:Prop} [Decidable c] {x y:Option α} (h:∃ b,x=some b) (k:∃ b,y=some b):∃ b,(if c then x else y)=some b:=by
 split
 ·exact h
 ·exact k
theorem Mz (t:BF):∃ b,EF t=some b:=by
 unfold EF IT
 repeat' first | exact⟨_,rfl⟩ | apply CM | (simp -implicitDefEqProofs only[Option.bind_eq_bind,Option.bind_some])
 all_goals (split <;> exact⟨_,rfl⟩)
theorem Xp (p:AB):p.size≤1000000000→∀ d:Int,1≤d→d≤5→∃ b,Cr (p,d)=some b:=by
 induction p using AB.induct with
 | h p ih =>
  intro hsz d hd1 hd2
  have hpl:=KS p
  by_cases h4:d > 4
  ·rw[Cr,if_pos (by simpa using h4)];exact⟨_,rfl⟩
  ·have key:∀ n i,p.Parts.length - i=n→i≤p.Parts.length→∃ o,Cr.l0 (d,(i:Int),p)=some o:=by
    intro n
    induction n with
    | zero =>
     intro i h1 h2
     obtain rfl:i=p.Parts.length:=by omega
     rw[Cr.l0,if_neg (dge (by dsimp only;omega))];exact⟨_,rfl⟩
    | succ n ih2 =>
     intro i h1 h2
     have hi:i<p.Parts.length:=by omega
     rw[Cr.l0,if_pos (dlt (by dsimp only;omega))]
     dsimp only
     have hm:=List.getElem_mem hi
     have hs:=KR hm
     rw[Ai hi,Gx (by omega) (by omega)]
     obtain⟨b,hb⟩:=ih _ hm (by omega) (d+1) (by omega) (by omega)
     simp -implicitDefEqProofs only[Option.bind_eq_bind,Option.bind_some]
     rw[hb]
     simp -implicitDefEqProofs only[Option.bind_some]
     split
     ·rw[Aa (by omega)];exact ih2 (i+1) (by omega) (by omega)
     ·exact⟨_,rfl⟩
   obtain⟨o,ho⟩:=key p.Parts.length 0 (by omega) (by omega)
   rw[show ((0:Nat):Int)=0 from rfl] at ho
   obtain⟨a,ha⟩:=Mz p.A
   obtain⟨b,hb⟩:=Mz p.B
   rw[Cr]
   dsimp only
   rw[ho,ha,hb]
   simp -implicitDefEqProofs only[Option.bind_eq_bind,Option.bind_some]
   cases o <;> dsimp only <;> (repeat' first | exact⟨_,rfl⟩ | apply CM)
theorem TN (p:AB) (h:p.size≤1000000000):∃ b,GY p=some b:=by
 obtain⟨b,hb⟩:=Xp p h 1 (by omega) (by omega)
 unfold GY
 rw[hb];exact⟨b,rfl⟩
end
section
theorem ADy {t:AA} (h:t.Kids.length=2):∃ x y,t.Kids=[x,y]:=by
 match hk:t.Kids with
 | [x,y]=>exact⟨x,y,rfl⟩
 | []=>rw[hk] at h;cases h
 | [_]=>rw[hk] at h;cases h
 | _ :: _ :: _ :: _=>rw[hk] at h;simp at h
structure Zh (cols:List Int) (l r:AC) (p:AB):Prop where
 right:GY p=some true
 col:∀ c∈p.cols,(Ad l c.e0=true∨Ad r c.e0=true)∧∃ n,AU cols c.e0=some n∧c.e1<n
 left:p.tabs&&&l≠0#64
 rt:p.tabs&&&r≠0#64
theorem YP (p:AB) (cols:List Int) (l r:AC) (hsz:p.size≤1000000) (hc:∀ n,Ad l n=true∨Ad r n=true→∃ x,AU cols n=some x):∃ e,CK (p,cols,l,r)=some e∧(e=0→Zh cols l r p):=by
 unfold CK
 dsimp only
 obtain⟨b,hb⟩:=TN p (by omega)
 rw[hb]
 simp -implicitDefEqProofs only[Option.bind_eq_bind,Option.bind_some]
 cases b with
 | false=>rw[if_neg (by decide)];exact⟨9,rfl,fun h=>by cases h⟩
 | true =>
  rw[if_pos rfl,Te p (by omega)]
  simp -implicitDefEqProofs only[Option.bind_some]
  have hcl:=QT p
  have key:∀ n i,p.cols.length - i=n→i≤p.cols.length→CK.l0 (cols,l,r,p.cols,(i:Int),p)=some (.ret 10)∨(CK.l0 (cols,l,r,p.cols,(i:Int),p)=some (.brk ())∧∀ j (h:j<p.cols.length),i≤j→(Ad l p.cols[j].e0=true∨Ad r p.cols[j].e0=true)∧∃ n,AU cols p.cols[j].e0=some n∧p.cols[j].e1<n):=by
   intro n
   induction n with
   | zero =>
    intro i h1 h2
    obtain rfl:i=p.cols.length:=by omega
    rw[CK.l0,if_neg (dge (by dsimp only;omega))]
    exact .inr ⟨rfl,fun j h h'=>by omega⟩
   | succ n ih =>
    intro i h1 h2
    have hi:i<p.cols.length:=by omega
    rw[CK.l0,if_pos (dlt (by dsimp only;omega))]
    dsimp only
    rw[Ai hi,Aa (by omega)]
    simp -implicitDefEqProofs only[Option.bind_eq_bind,Option.bind_some,FD]
    have ih:=ih (i+1) (by omega) (by omega)
    have more:∀ (h:Ad l p.cols[i].e0=true∨Ad r p.cols[i].e0=true) (x:Int),AU cols p.cols[i].e0=some x→(if(decide (p.cols[i].e1 ≥ x))=true then some (Lp.ret 10) else CK.l0 (cols,l,r,p.cols,((i+1:Nat):Int),p))=some (.ret 10)∨((if(decide (p.cols[i].e1 ≥ x))=true then some (Lp.ret 10) else CK.l0 (cols,l,r,p.cols,((i+1:Nat):Int),p))=some (.brk ())∧∀ j (h:j<p.cols.length),i≤j→(Ad l p.cols[j].e0=true∨Ad r p.cols[j].e0=true)∧∃ n,AU cols p.cols[j].e0=some n∧p.cols[j].e1<n):=by
     intro h x hx
     by_cases hge:p.cols[i].e1 ≥ x
     ·rw[if_pos (by simpa using hge)];exact .inl rfl
     ·rw[if_neg (by simpa using hge)]
      rcases ih with ih | ⟨ih1,ih2⟩
      ·exact .inl ih
      ·refine .inr ⟨ih1,fun j hj hij=>?_⟩
       by_cases e:j=i
       ·subst e;exact⟨h,x,hx,by omega⟩
       ·exact ih2 j hj (by omega)
    cases hl:Ad l p.cols[i].e0 with
    | true =>
     obtain⟨x,hx⟩:=hc _ (.inl hl)
     rw[if_pos rfl,hx]
     simp -implicitDefEqProofs only[Option.bind_some]
     exact more (.inl hl) x hx
    | false =>
     rw[if_neg (by decide)]
     cases hr:Ad r p.cols[i].e0 with
     | true =>
      obtain⟨x,hx⟩:=hc _ (.inr hr)
      rw[if_pos rfl,hx]
      simp -implicitDefEqProofs only[Option.bind_some]
      exact more (.inr hr) x hx
     | false=>rw[if_neg (by decide)];exact .inl rfl
  have h0:=key p.cols.length 0 (by omega) (by omega)
  rw[show ((0:Nat):Int)=0 from rfl] at h0
  rcases h0 with h0 | ⟨h0,h1⟩
  ·rw[h0];exact⟨10,rfl,fun h=>by cases h⟩
  ·rw[h0,NN p (by omega)]
   simp -implicitDefEqProofs only[Option.bind_some]
   by_cases hl:p.tabs&&&l=0#64
   ·rw[if_pos (by simpa using hl)];exact⟨11,rfl,fun h=>by cases h⟩
   ·rw[if_neg (by simpa using hl)]
    by_cases hr:p.tabs&&&r=0#64
    ·rw[if_pos (by simpa using hr)];exact⟨11,rfl,fun h=>by cases h⟩
    ·rw[if_neg (by simpa using hr)]
     refine⟨0,rfl,fun _=>⟨hb,fun c hc=>?_,hl,hr⟩⟩
     obtain⟨j,hj,rfl⟩:=List.getElem_of_mem hc
     exact h1 j hj (Nat.zero_le _)
inductive Ld (cols:List Int) (t:AA):Prop
 | leaf (hk:t.Kind=0) (hks:t.Kids=[]) (hc:t.Conj=[]) (hh:t.Hash=false) (h0:0≤t.Table) (h1:t.Table<(cols.length:Int))
 | op (a b:AA) (hk1:1≤t.Kind) (hk2:t.Kind≤4) (hks:t.Kids=[a,b]) (hc:t.Conj≠[]) (ht:t.Table=0) (hp:∀ p∈t.Conj,Zh cols a.seen b.seen p)
theorem XK (t:AA):∀ n,Ad t.seen n=true→n∈Ag t.tour:=by
 have orI:∀ (s u:AC) n,Ad (s|||u) n=true→Ad s n=true∨Ad u n=true:=by
  intro s u n h
  unfold Ad at *
  simp only[Bool.and_eq_true,BitVec.getLsbD_or,Bool.or_eq_true] at *
  obtain⟨h1,h2 | h2⟩:=h
  ·exact .inl ⟨h1,h2⟩
  ·exact .inr ⟨h1,h2⟩
 induction t using AA.induct with
 | h t ih =>
  intro n hn
  have up:∀ y∈t.Kids,n∈Ag y.tour→n∈Ag t.tour:=by
   intro y hy h
   unfold Ag at *
   obtain⟨z,hz,e⟩:=List.mem_map.1 h
   obtain⟨h1,h2⟩:=List.mem_filter.1 hz
   exact List.mem_map.2 ⟨z,List.mem_filter.2 ⟨Zf hy z h1,h2⟩,e⟩
  rw[ABU] at hn
  by_cases h0:t.Kind=0
  ·rw[if_pos h0] at hn
   unfold Ad at hn
   simp only[Bool.and_eq_true,decide_eq_true_eq] at hn
   rw[Tu] at hn
   simp only[Bool.and_eq_true,decide_eq_true_eq] at hn
   have:t.Table=n:=by omega
   exact List.mem_map.2 ⟨t,List.mem_filter.2 ⟨Xf t,by simp[h0]⟩,this⟩
  ·rw[if_neg h0] at hn
   have z0:Ad 0#64 n=false:=by unfold Ad;simp
   by_cases h34:t.Kind=3∨t.Kind=4
   ·rw[if_pos h34] at hn
    cases hk:t.Kids with
    | nil=>rw[hk] at hn;simp only[AA.seen.seen1,z0] at hn;cases hn
    | cons x l =>
     rw[hk] at hn
     simp only[AA.seen.seen1] at hn
     have hx:x∈t.Kids:=by rw[hk];simp
     exact up x hx (ih x hx n hn)
   ·rw[if_neg h34] at hn
    have:∀ l:List AA,(∀ y∈l,y∈t.Kids)→Ad (AA.seen.seenL l) n=true→n∈Ag t.tour:=by
     intro l
     induction l with
     | nil=>intro _ h;simp only[AA.seen.seenL,z0] at h;cases h
     | cons x l ih2 =>
      intro hl h
      simp only[AA.seen.seenL] at h
      rcases orI _ _ _ h with h | h
      ·exact up x (hl x List.mem_cons_self) (ih x (hl x List.mem_cons_self) n h)
      ·exact ih2 (fun y hy=>hl y (List.mem_cons_of_mem _ hy)) h
    exact this t.Kids (fun y hy=>hy) hn
theorem AAZ (t:AA) (cols came:List Int) (conjs:Nat) (hsz:t.size≤1000000) (hcm:came.length≤1000000) (hcj:conjs≤1000000) (hk:∀ y∈t.Kids,∀ n∈Ag y.tour,0≤n∧n<(cols.length:Int)):∃ e,BZ (t,cols,came,(conjs:Int))=some e∧(e=0→Ld cols t∧(t.Kind=0→t.Table ∉ came)):=by
 have hcl:=LI t
 unfold BZ
 dsimp only
 by_cases k0:t.Kind<0
 ·rw[if_pos (by simpa using k0)];exact⟨4,rfl,fun h=>by cases h⟩
 rw[if_neg (by simpa using k0)]
 by_cases k4:t.Kind > 4
 ·rw[if_pos (by simpa using k4)];exact⟨4,rfl,fun h=>by cases h⟩
 rw[if_neg (by simpa using k4)]
 by_cases kz:t.Kind=0
 ·rw[if_pos (by simpa using kz)]
  by_cases hh:t.Hash=true
  ·rw[if_pos hh];exact⟨4,rfl,fun h=>by cases h⟩
  rw[if_neg hh]
  by_cases hks:t.Kids=[]
  ·rw[if_neg (by simp[hks])]
   by_cases hcs:t.Conj=[]
   ·rw[if_neg (by simp[hcs])]
    by_cases h0:t.Table<0
    ·rw[if_pos (by simpa using h0)];exact⟨5,rfl,fun h=>by cases h⟩
    rw[if_neg (by simpa using h0)]
    by_cases h1:t.Table ≥ (cols.length:Int)
    ·rw[if_pos (by simpa using h1)];exact⟨5,rfl,fun h=>by cases h⟩
    rw[if_neg (by simpa using h1)]
    have key:∀ n i,came.length - i=n→i≤came.length→BZ.l0 (came,(i:Int),t)=some (.ret 6)∨(BZ.l0 (came,(i:Int),t)=some (.brk ())∧∀ j (h:j<came.length),i≤j→came[j]≠t.Table):=by
     intro n
     induction n with
     | zero =>
      intro i h1 h2
      obtain rfl:i=came.length:=by omega
      rw[BZ.l0,if_neg (dge (by dsimp only;omega))]
      exact .inr ⟨rfl,fun j h h'=>by omega⟩
     | succ n ih =>
      intro i h1 h2
      have hi:i<came.length:=by omega
      rw[BZ.l0,if_pos (dlt (by dsimp only;omega))]
      dsimp only
      rw[Ai hi,Aa (by omega)]
      simp -implicitDefEqProofs only[Option.bind_eq_bind,Option.bind_some]
      by_cases e:came[i]=t.Table
      ·rw[if_pos (by simpa using e)];exact .inl rfl
      ·rw[if_neg (by simpa using e)]
       rcases ih (i+1) (by omega) (by omega) with ih | ⟨ih1,ih2⟩
       ·exact .inl ih
       ·refine .inr ⟨ih1,fun j hj hij=>?_⟩
        by_cases ej:j=i
        ·subst ej;exact e
        ·exact ih2 j hj (by omega)
    have h2:=key came.length 0 (by omega) (by omega)
    rw[show ((0:Nat):Int)=0 from rfl] at h2
    rcases h2 with h2 | ⟨h2,h3⟩
    ·rw[h2];exact⟨6,rfl,fun h=>by cases h⟩
    ·rw[h2]
     refine⟨0,rfl,fun _=>⟨.leaf kz hks hcs (by simpa using hh) (by omega) (by omega),fun _ hm=>?_⟩⟩
     obtain⟨j,hj,e⟩:=List.getElem_of_mem hm
     exact h3 j hj (Nat.zero_le _) e
   ·rw[if_pos (by simp;exact List.length_pos_iff.2 hcs)];exact⟨8,rfl,fun h=>by cases h⟩
  ·rw[if_pos (by simp;exact List.length_pos_iff.2 hks)];exact⟨7,rfl,fun h=>by cases h⟩
 rw[if_neg (by simpa using kz)]
 by_cases h2:t.Kids.length=2
 ·obtain⟨a,b,hab⟩:=ADy h2
  rw[if_neg (by simp[h2])]
  by_cases hcs:t.Conj=[]
  ·rw[if_pos (by simp[hcs])];exact⟨8,rfl,fun h=>by cases h⟩
  have hcp:=List.length_pos_iff.2 hcs
  rw[if_neg (by simp;omega)]
  rw[Gx (by omega) (by omega)]
  by_cases h64:(conjs:Int)+(t.Conj.length:Int) > 64
  ·rw[if_pos (by simpa using h64)];exact⟨8,rfl,fun h=>by cases h⟩
  rw[if_neg (by simpa using h64)]
  by_cases ht:t.Table=0
  ·rw[if_neg (by simpa using ht)]
   have ha:a∈t.Kids:=by rw[hab];simp
   have hb:b∈t.Kids:=by rw[hab];simp
   have has:=Cc ha
   have hbs:=Cc hb
   have k0':t.Kids[0]?=some a:=by rw[hab];rfl
   have k1':t.Kids[1]?=some b:=by rw[hab];rfl
   have hidx:∀ n,Ad a.seen n=true∨Ad b.seen n=true→∃ x,AU cols n=some x:=by
    intro n hn
    have:0≤n∧n<(cols.length:Int):=hn.elim (fun h=>hk a ha n (XK a n h)) (fun h=>hk b hb n (XK b n h))
    obtain⟨k,rfl⟩:∃ k:Nat,n=k:=⟨n.toNat,by omega⟩
    exact⟨_,Ai (by omega)⟩
   have key:∀ n i,t.Conj.length - i=n→i≤t.Conj.length→∃ o,BZ.l1 (cols,(i:Int),t)=some o∧((∃ e,o=.ret e∧e≠0)∨(o=.brk ()∧∀ j (h:j<t.Conj.length),i≤j→Zh cols a.seen b.seen t.Conj[j])):=by
    intro n
    induction n with
    | zero =>
     intro i h1 h2
     obtain rfl:i=t.Conj.length:=by omega
     rw[BZ.l1,if_neg (dge (by dsimp only;omega))]
     exact⟨_,rfl,.inr ⟨rfl,fun j h h'=>by omega⟩⟩
    | succ n ih =>
     intro i h1 h2
     have hi:i<t.Conj.length:=by omega
     have hps:=KQ (List.getElem_mem hi)
     rw[BZ.l1,if_pos (dlt (by dsimp only;omega))]
     dsimp only
     rw[Ai hi,k0',k1',Aa (by omega)]
     simp -implicitDefEqProofs only[Option.bind_eq_bind,Option.bind_some]
     rw[Pd a (by omega),Pd b (by omega)]
     simp -implicitDefEqProofs only[Option.bind_some]
     obtain⟨e,he,h0⟩:=YP t.Conj[i] cols a.seen b.seen (by omega) hidx
     rw[he]
     simp -implicitDefEqProofs only[Option.bind_some]
     by_cases ez:e=0
     ·rw[if_neg (by simpa using ez)]
      obtain⟨o,ho,hh⟩:=ih (i+1) (by omega) (by omega)
      refine⟨o,ho,hh.imp id fun ⟨e1,e2⟩=>⟨e1,fun j hj hij=>?_⟩⟩
      by_cases ej:j=i
      ·subst ej;exact h0 ez
      ·exact e2 j hj (by omega)
     ·rw[if_pos (by simpa using ez)]
      exact⟨_,rfl,.inl ⟨e,rfl,ez⟩⟩
   obtain⟨o,ho,hh⟩:=key t.Conj.length 0 (by omega) (by omega)
   rw[show ((0:Nat):Int)=0 from rfl] at ho
   rw[ho]
   rcases hh with⟨e,rfl,he⟩|⟨rfl,hall⟩
   ·exact⟨e,rfl,fun h=>absurd h he⟩
   ·refine⟨0,rfl,fun _=>⟨.op a b (by omega) (by omega) hab hcs ht (fun p hp=>?_),fun h=>absurd h kz⟩⟩
    obtain⟨j,hj,rfl⟩:=List.getElem_of_mem hp
    exact hall j hj (Nat.zero_le _)
  ·rw[if_pos (by simpa using ht)];exact⟨5,rfl,fun h=>by cases h⟩
 ·rw[if_pos (by simp;omega)];exact⟨7,rfl,fun h=>by cases h⟩
def ED (l:List AA):Nat:=(l.map fun y=>y.Conj.length).sum
theorem Hn (l l':List AA):ED (l++l')=ED l+ED l':=by unfold ED;rw[List.map_append,List.sum_append]
theorem PI (x:AA) (l:List AA):ED (x :: l)=x.Conj.length+ED l:=rfl
theorem Lz (t:AA):ED t.tour≤t.size:=by
 induction t using AA.induct with
 | h t ih =>
  rw[Dk,Hn,DX]
  have hl:∀ l:List AA,(∀ y∈l,ED y.tour≤y.size)→ED (l.flatMap AA.tour)≤(l.map AA.size).sum:=by
   intro l
   induction l with
   | nil=>intro _;simp[ED]
   | cons y l ih2 =>
    intro h
    rw[List.flatMap_cons,Hn,List.map_cons,List.sum_cons]
    have h1:=h y List.mem_cons_self
    have h2:=ih2 fun z hz=>h z (List.mem_cons_of_mem _ hz)
    omega
  have h1:=hl t.Kids ih
  have h2:=Me AB.size KU t.Conj
  have h3:ED [t]=t.Conj.length:=by simp[ED]
  omega
theorem Cy (l l':List AA):Ag (l++l')=Ag l++Ag l':=by unfold Ag;rw[List.filter_append,List.map_append]
theorem ABC {cols:List Int} {l:List AA} (h:∀ y∈l,Ld cols y):∀ n∈Ag l,0≤n∧n<(cols.length:Int):=by
 intro n hn
 obtain⟨y,hy,rfl⟩:=List.mem_map.1 hn
 obtain⟨h1,h2⟩:=List.mem_filter.1 hy
 have hk:y.Kind=0:=by simpa using h2
 cases h y h1 with
 | leaf _ _ _ _ h0 h1=>exact⟨h0,h1⟩
 | op a b h3=>omega
theorem ACv (q:BY) (all:List AA) (hlen:all.length≤1000) (hsz:∀ y∈all,y.size≤1000):∀ (t:AA) (i:Nat) (came:List Int) (conjs:Nat) (rest:List AA),all.drop i=t.tour++rest→came.length≤i→conjs+ED (all.drop i)≤1000→came.Nodup →
  (∃ e,e≠0∧Am.l1 (all,came,(conjs:Int),(i:Int),q)=some (.ret e)) ∨
  (Am.l1 (all,came,(conjs:Int),(i:Int),q)=Am.l1 (all,came++Ag t.tour,((conjs+ED t.tour:Nat):Int),((i+t.tour.length:Nat):Int),q)∧(∀ y∈t.tour,Ld q.Cols y)∧(came++Ag t.tour).Nodup):=by
 intro t
 induction t using AA.induct with
 | h t ih =>
  intro i came conjs rest hdrop hcl hcj hnd
  -- the kids
  have kids:∀ (ks:List AA),(∀ y∈ks,y∈t.Kids)→∀ (i:Nat) (came:List Int) (conjs:Nat) (rest:List AA),all.drop i=ks.flatMap AA.tour++rest→came.length≤i→conjs+ED (all.drop i)≤1000→came.Nodup →
    (∃ e,e≠0∧Am.l1 (all,came,(conjs:Int),(i:Int),q)=some (.ret e)) ∨
    (Am.l1 (all,came,(conjs:Int),(i:Int),q)=Am.l1 (all,came++Ag (ks.flatMap AA.tour),((conjs+ED (ks.flatMap AA.tour):Nat):Int),((i+(ks.flatMap AA.tour).length:Nat):Int),q)∧(∀ y∈ks.flatMap AA.tour,Ld q.Cols y)∧(came++Ag (ks.flatMap AA.tour)).Nodup):=by
   intro ks
   induction ks with
   | nil =>
    intro _ i came conjs rest _ _ _ hnd
    refine .inr ⟨?_,fun y hy=>by simp at hy,by simpa [Ag] using hnd⟩
    simp[Ag,ED]
   | cons k ks ih2 =>
    intro hks i came conjs rest hdrop hcl hcj hnd
    rw[List.flatMap_cons,List.append_assoc] at hdrop
    rcases ih k (hks k List.mem_cons_self) i came conjs _ hdrop hcl hcj hnd with h | ⟨h1,h2,h3⟩
    ·exact .inl h
    ·have hd2:all.drop (i+k.tour.length)=ks.flatMap AA.tour++rest:=by
      rw[← List.drop_drop,hdrop,List.drop_left]
     have hc2:(came++Ag k.tour).length≤i+k.tour.length:=by rw[List.length_append];have:=NH k.tour;omega
     have hj2:conjs+ED k.tour+ED (all.drop (i+k.tour.length))≤1000:=by
      rw[hdrop,Hn] at hcj;rw[hd2];omega
     rcases ih2 (fun y hy=>hks y (List.mem_cons_of_mem _ hy)) (i+k.tour.length) (came++Ag k.tour) (conjs+ED k.tour) rest hd2 hc2 hj2 h3 with⟨e,he,h⟩|⟨g1,g2,g3⟩
     ·exact .inl ⟨e,he,h1.trans h⟩
     ·refine .inr ⟨?_,fun y hy=>?_,?_⟩
      ·rw[h1,g1,List.flatMap_cons,Cy,Hn,List.length_append,List.append_assoc,Nat.add_assoc conjs,Nat.add_assoc i]
      ·rw[List.flatMap_cons] at hy
       exact(List.mem_append.1 hy).elim (h2 y) (g2 y)
      ·rw[List.flatMap_cons,Cy,← List.append_assoc];exact g3
  rw[Dk,List.append_assoc] at hdrop
  rcases kids t.Kids (fun y hy=>hy) i came conjs _ hdrop hcl hcj hnd with h | ⟨h1,h2,h3⟩
  ·exact .inl h
  ·have hd2:all.drop (i+(t.Kids.flatMap AA.tour).length)=[t]++rest:=by rw[← List.drop_drop,hdrop,List.drop_left]
   have hlt:i+(t.Kids.flatMap AA.tour).length<all.length:=by
    rcases Nat.lt_or_ge (i+(t.Kids.flatMap AA.tour).length) all.length with h | h
    ·exact h
    ·rw[List.drop_eq_nil_of_le h] at hd2;cases hd2
   have hget:all[i+(t.Kids.flatMap AA.tour).length]=t:=by
    have:=List.drop_eq_getElem_cons hlt
    rw[hd2] at this
    injection this with h _
    exact h.symm
   have htm:t∈all:=by rw[← hget];exact List.getElem_mem hlt
   have hts:=hsz t htm
   have hj2:conjs+ED (t.Kids.flatMap AA.tour)+t.Conj.length≤1000:=by
    rw[hdrop,Hn,List.cons_append,List.nil_append,PI] at hcj;omega
   have hc2:(came++Ag (t.Kids.flatMap AA.tour)).length≤i+(t.Kids.flatMap AA.tour).length:=by rw[List.length_append];have:=NH (t.Kids.flatMap AA.tour);omega
   obtain⟨e,he,h0⟩:=AAZ t q.Cols (came++Ag (t.Kids.flatMap AA.tour)) (conjs+ED (t.Kids.flatMap AA.tour)) (by omega) (by omega) (by omega) (fun y hy n hn=>ABC (cols:=q.Cols) (l:=y.tour) (fun z hz=>h2 z (List.mem_flatMap.2 ⟨y,hy,hz⟩)) n hn)
   have hstep:Am.l1 (all,came++Ag (t.Kids.flatMap AA.tour),((conjs+ED (t.Kids.flatMap AA.tour):Nat):Int),((i+(t.Kids.flatMap AA.tour).length:Nat):Int),q) =
     (if(e != 0)=true then some (.ret e) else Am.l1 (all,came++Ag t.tour,((conjs+ED t.tour:Nat):Int),((i+t.tour.length:Nat):Int),q)):=by
    rw[Am.l1,if_pos (dlt (by dsimp only;omega))]
    dsimp only
    rw[Ai hlt,hget]
    simp -implicitDefEqProofs only[Option.bind_eq_bind,Option.bind_some]
    rw[he]
    simp -implicitDefEqProofs only[Option.bind_some]
    have w1:w64 (((conjs+ED (t.Kids.flatMap AA.tour):Nat):Int)+(t.Conj.length:Int))=((conjs+ED t.tour:Nat):Int):=by
     rw[Gx (by omega) (by omega),Dk t,Hn]
     have:ED [t]=t.Conj.length:=by simp[ED]
     omega
    have w2:w64 (((i+(t.Kids.flatMap AA.tour).length:Nat):Int)+1)=((i+t.tour.length:Nat):Int):=by
     rw[Aa (by omega),Dk t,List.length_append];simp only[List.length_cons,List.length_nil];omega
    rw[w1,w2]
    by_cases ez:e=0
    ·have e1:¬ (e != 0)=true:=by simpa using ez
     rw[if_neg e1,if_neg e1]
     by_cases hk:t.Kind=0
     ·rw[if_pos (by simpa using hk),Bt (by simp only[List.length_cons,List.length_nil];omega)]
      simp -implicitDefEqProofs only[Option.bind_some]
      have:came++Ag (t.Kids.flatMap AA.tour)++[t.Table]=came++Ag t.tour:=by
       rw[Dk t,Cy,JE [] hk,List.append_assoc];rfl
      rw[this]
     ·rw[if_neg (by simpa using hk)]
      have:came++Ag (t.Kids.flatMap AA.tour)=came++Ag t.tour:=by
       rw[Dk t,Cy,HD [] hk]
       have:Ag []=[]:=rfl
       rw[this,List.append_nil]
      rw[this]
    ·have e1:(e != 0)=true:=by simpa using ez
     rw[if_pos e1,if_pos e1]
   by_cases ez:e=0
   ·have e1:¬ (e != 0)=true:=by simpa using ez
    rw[if_neg e1] at hstep
    obtain⟨g1,g2⟩:=h0 ez
    refine .inr ⟨h1.trans hstep,fun y hy=>?_,?_⟩
    ·rw[Dk,List.mem_append] at hy
     rcases hy with hy | hy
     ·exact h2 y hy
     ·simp at hy;subst hy;exact g1
    ·rw[Dk t,Cy,← List.append_assoc]
     by_cases hk:t.Kind=0
     ·have e2:Ag [t]=[t.Table]:=JE [] hk
      rw[e2]
      refine List.nodup_append.2 ⟨h3,by simp,fun a ha b hb=>?_⟩
      simp at hb;subst hb
      exact fun e=>g2 hk (e ▸ ha)
     ·have e2:Ag [t]=[]:=HD [] hk
      rw[e2,List.append_nil];exact h3
   ·have e1:(e != 0)=true:=by simpa using ez
    rw[if_pos e1] at hstep
    exact .inl ⟨e,ez,h1.trans hstep⟩
structure AAG (q:BY):Prop where
 ncols:q.Cols.length≤64
 colr:∀ c∈q.Cols,1≤c∧c≤4
 node:∀ y∈q.Root.tour,Ld q.Cols y
 nodup:(Ag q.Root.tour).Nodup
theorem Vp (q:BY) (hsz:q.Root.size≤600):∃ e,Am q=some e∧(e=0→AAG q):=by
 unfold Am
 by_cases h64:(q.Cols.length:Int) > 64
 ·rw[if_pos (by simpa using h64)];exact⟨2,rfl,fun h=>by cases h⟩
 rw[if_neg (by simpa using h64)]
 have key:∀ n i,q.Cols.length - i=n→i≤q.Cols.length→Am.l0 ((i:Int),q)=some (.ret 12)∨(Am.l0 ((i:Int),q)=some (.brk ())∧∀ j (h:j<q.Cols.length),i≤j→1≤q.Cols[j]∧q.Cols[j]≤4):=by
  intro n
  induction n with
  | zero =>
   intro i h1 h2
   obtain rfl:i=q.Cols.length:=by omega
   rw[Am.l0,if_neg (dge (by dsimp only;omega))]
   exact .inr ⟨rfl,fun j h h'=>by omega⟩
  | succ n ih =>
   intro i h1 h2
   have hi:i<q.Cols.length:=by omega
   rw[Am.l0,if_pos (dlt (by dsimp only;omega))]
   dsimp only
   rw[Ai hi,Aa (by omega)]
   simp -implicitDefEqProofs only[Option.bind_eq_bind,Option.bind_some]
   by_cases c1:q.Cols[i]<1
   ·rw[if_pos (dlt c1)];exact .inl rfl
   rw[if_neg (dge c1)]
   by_cases c4:q.Cols[i] > 4
   ·rw[if_pos (by simpa using c4)];exact .inl rfl
   rw[if_neg (by simpa using c4)]
   rcases ih (i+1) (by omega) (by omega) with ih | ⟨ih1,ih2⟩
   ·exact .inl ih
   ·refine .inr ⟨ih1,fun j hj hij=>?_⟩
    by_cases ej:j=i
    ·subst ej;omega
    ·exact ih2 j hj (by omega)
 have h0:=key q.Cols.length 0 (by omega) (by omega)
 rw[show ((0:Nat):Int)=0 from rfl] at h0
 rcases h0 with h0 | ⟨h0,hcols⟩
 ·rw[h0];exact⟨12,rfl,fun h=>by cases h⟩
 rw[h0]
 simp -implicitDefEqProofs only[Option.bind_eq_bind,Option.bind_some]
 rw[Kq _ (by omega)]
 simp -implicitDefEqProofs only[Option.bind_some]
 have htl:=LL q.Root
 have hnc:=Lz q.Root
 have h1:=ACv q q.Root.tour (by omega) (fun y hy=>by have:=KP q.Root y hy;omega) q.Root 0 [] 0 [] (by simp) (by simp) (by simp;omega) (by simp)
 rw[show ((0:Nat):Int)=0 from rfl] at h1
 rcases h1 with⟨e,he,h1⟩|⟨h1,h2,h3⟩
 ·rw[h1];exact⟨e,rfl,fun h=>absurd h he⟩
 ·rw[h1,Am.l1,if_neg (dge (by dsimp only;omega))]
  refine⟨0,rfl,fun _=>⟨by omega,fun c hc=>?_,h2,by simpa using h3⟩⟩
  obtain⟨j,hj,rfl⟩:=List.getElem_of_mem hc
  exact hcols j hj (Nat.zero_le _)
theorem Vv (q:BY) (hsz:q.Root.size≤600):∃ b,HM q=some b∧(b=true→AAG q):=by
 obtain⟨e,he,h⟩:=Vp q hsz
 unfold HM
 rw[he]
 exact⟨_,rfl,fun hb=>h (by simpa using hb)⟩
theorem ZC (q:BY):IY q=some (decide (q.Root.size≤600)):=by
 unfold IY
 have e:=Pg q.Root 601 (by omega) (by omega)
 rw[show ((601:Nat):Int)=601 from rfl] at e
 rw[e]
 simp -implicitDefEqProofs only[Option.bind_eq_bind,Option.bind_some]
 congr 1
 exact decide_eq_decide.2 (by omega)
end
section
theorem AJ7:okF Tryz.f97=true:=by kernel_rfl
mutual
def Cn.l0 (x:List AB × List AB × Int × Int × AB × AB):Option (List AB) :=
 if(decide (x.2.2.2.1<x.2.2.1))=true then
  (AU x.2.1 x.2.2.2.1)>>=fun (e2:AB) =>
  Cn e2>>=fun r4 =>
  (room 128 x.1 ([r4]))>>=fun (z6:List AB) =>
  Cn.l0 (z6,x.2.1,x.2.2.1,(w64 (x.2.2.2.1+1)),x.2.2.2.2.1,x.2.2.2.2.2)
 else
  some x.1
 partial_fixpoint
def Cn (x:AB):Option (AB) :=
 Cn.l0 (([]:List AB),x.Parts,(x.Parts.length:Int),0,x,(⟨0,0,0,(⟨0,0,0,(⟨false,0⟩:BT)⟩:BF),(⟨0,0,0,(⟨false,0⟩:BT)⟩:BF),[]⟩:AB))>>=fun (o8:List AB) =>
 some (⟨x.Kind,x.Truth,x.Op,x.A,x.B,o8⟩:AB)
 partial_fixpoint
end
theorem Cn.l0.ws:PC Cn.l0 (fun x o=>∀ lo c (Q:EP) (hb:∀ s:List AB,o=s→Q (.exit 0) ⟨[(1,.lref 1 0),(2,.lref 2 0),(3,.own 100300 14 (s.map AB.av))],[(1,[.v (.i64 x.2.2.2.2.1.Kind),.v (.i64 x.2.2.2.2.1.Truth),.v (.i64 x.2.2.2.2.1.Op),.v (.i64 x.2.2.2.2.1.A.Kind),.v (.i64 x.2.2.2.2.1.A.Table),.v (.i64 x.2.2.2.2.1.A.Col),.v (.bool x.2.2.2.2.1.A.Value.Null),.v (.i64 x.2.2.2.2.1.A.Value.N),.v (.i64 x.2.2.2.2.1.B.Kind),.v (.i64 x.2.2.2.2.1.B.Table),.v (.i64 x.2.2.2.2.1.B.Col),.v (.bool x.2.2.2.2.1.B.Value.Null),.v (.i64 x.2.2.2.2.1.B.Value.N),.v (.slice .foreign (x.2.2.2.2.1.Parts.map AB.av))]),(2,[.v (.i64 x.2.2.2.2.2.Kind),.v (.i64 x.2.2.2.2.2.Truth),.v (.i64 x.2.2.2.2.2.Op),.v (.i64 x.2.2.2.2.2.A.Kind),.v (.i64 x.2.2.2.2.2.A.Table),.v (.i64 x.2.2.2.2.2.A.Col),.v (.bool x.2.2.2.2.2.A.Value.Null),.v (.i64 x.2.2.2.2.2.A.Value.N),.v (.i64 x.2.2.2.2.2.B.Kind),.v (.i64 x.2.2.2.2.2.B.Table),.v (.i64 x.2.2.2.2.2.B.Col),.v (.bool x.2.2.2.2.2.B.Value.Null),.v (.i64 x.2.2.2.2.2.B.Value.N),.own 20000213 14 (x.2.2.2.2.2.Parts.map AB.av)])]⟩),AK Tryz.prog 97 lo c 0 (VQ Q) ⟨[(1,.lref 1 0),(2,.lref 2 0),(3,.own 100300 14 (x.1.map AB.av)),(7,.v (.slice .foreign (x.2.1.map AB.av))),(8,.v (.i64 x.2.2.1)),(9,.v (.i64 x.2.2.2.1))],[(1,[.v (.i64 x.2.2.2.2.1.Kind),.v (.i64 x.2.2.2.2.1.Truth),.v (.i64 x.2.2.2.2.1.Op),.v (.i64 x.2.2.2.2.1.A.Kind),.v (.i64 x.2.2.2.2.1.A.Table),.v (.i64 x.2.2.2.2.1.A.Col),.v (.bool x.2.2.2.2.1.A.Value.Null),.v (.i64 x.2.2.2.2.1.A.Value.N),.v (.i64 x.2.2.2.2.1.B.Kind),.v (.i64 x.2.2.2.2.1.B.Table),.v (.i64 x.2.2.2.2.1.B.Col),.v (.bool x.2.2.2.2.1.B.Value.Null),.v (.i64 x.2.2.2.2.1.B.Value.N),.v (.slice .foreign (x.2.2.2.2.1.Parts.map AB.av))]),(2,[.v (.i64 x.2.2.2.2.2.Kind),.v (.i64 x.2.2.2.2.2.Truth),.v (.i64 x.2.2.2.2.2.Op),.v (.i64 x.2.2.2.2.2.A.Kind),.v (.i64 x.2.2.2.2.2.A.Table),.v (.i64 x.2.2.2.2.2.A.Col),.v (.bool x.2.2.2.2.2.A.Value.Null),.v (.i64 x.2.2.2.2.2.A.Value.N),.v (.i64 x.2.2.2.2.2.B.Kind),.v (.i64 x.2.2.2.2.2.B.Table),.v (.i64 x.2.2.2.2.2.B.Col),.v (.bool x.2.2.2.2.2.B.Value.Null),.v (.i64 x.2.2.2.2.2.B.Value.N),.own 20000213 14 (x.2.2.2.2.2.Parts.map AB.av)])]⟩)∧PC Cn (fun x r=>Fn Tryz.prog 97 [.agg (AB.C x)] (.agg (AB.C r))):=by
 refine Cn.l0.mutual_partial_correctness _ _ ?_ ?_
 ·intro KB YJ JX WO x o h
  have UD:AH KB _:=⟨JX⟩
  have AJz:AH YJ _:=⟨WO⟩
  intro lo c Q hb
  refine AK.step mix AH2 (by kernel_rfl) ?_
  simp -implicitDefEqProofs only[go_sem,Tryz.f97]
  exact AR
 ·intro KB JX x r h
  have UD:AH KB _:=⟨JX⟩
  refine Fn.of_lc mix AH2 AJ7 (by rfl) (flC (AB.flatC _) (flN)) (AB.flatC _) ?_
  simp -implicitDefEqProofs only[go_sem,Tryz.f97]
  exact AR
instance Cn.w:type_of% (AH.mk Cn.l0.ws.2):=⟨Cn.l0.ws.2⟩
end
section
@[go_sem] theorem APt:lrp Tryz.prog 98 6=(12,[]):=by kernel_rfl
theorem AKF:okF Tryz.f98=true:=by kernel_rfl
mutual
def Cb.l0 (x:Int × AB × AB):Option (Lp (Unit) (Bool)) :=
 if(decide (x.1<(x.2.1.Parts.length:Int)))=true then
  (AU x.2.1.Parts x.1)>>=fun (e8:AB) =>
  (AU x.2.2.Parts x.1)>>=fun (e10:AB) =>
  Cb (e8,e10)>>=fun r12 =>
  if r12=true then
   Cb.l0 ((w64 (x.1+1)),x.2.1,x.2.2)
  else
   some (.ret false)
 else
  some (.brk ())
 partial_fixpoint
def Cb (x:AB × AB):Option (Bool) :=
 if(x.1.Kind != x.2.Kind)=true then
  some false
 else
  if(x.1.Truth != x.2.Truth)=true then
   some false
  else
   if(x.1.Op != x.2.Op)=true then
    some false
   else
    if((x.1.A.Kind == x.2.A.Kind)&&((x.1.A.Table == x.2.A.Table)&&((x.1.A.Col == x.2.A.Col)&&((x.1.A.Value.Null == x.2.A.Value.Null)&&(x.1.A.Value.N == x.2.A.Value.N)))))=true then
     if((x.1.B.Kind == x.2.B.Kind)&&((x.1.B.Table == x.2.B.Table)&&((x.1.B.Col == x.2.B.Col)&&((x.1.B.Value.Null == x.2.B.Value.Null)&&(x.1.B.Value.N == x.2.B.Value.N)))))=true then
      if((x.1.Parts.length:Int) != (x.2.Parts.length:Int))=true then
       some false
      else
       Cb.l0 (0,x.1,x.2)>>=fun (o15:Lp (Unit) (Bool))=>match o15 with
       | .brk s18 =>
        some true
       | .ret r17 =>
        some r17
     else
      some false
    else
     some false
 partial_fixpoint
end
theorem Cb.l0.ws:PC Cb.l0 (fun x o=>∀ lo c (Q:EP) (hb:∀ s:Unit,o=Lp.brk s→Q (.exit 0) ⟨[],[]⟩) (hr:∀ (r:Bool) (L:AO),o=.ret r→DV Tryz.prog [.tmp 4] (.bool r) (fun _=>True) .ret L→Q .ret L),AK Tryz.prog 98 lo c 0 (VQ Q) ⟨[(2,.lref 2 0),(3,.lref 3 0),(5,.v (.i64 x.1))],[(2,[.v (.i64 x.2.1.Kind),.v (.i64 x.2.1.Truth),.v (.i64 x.2.1.Op),.v (.i64 x.2.1.A.Kind),.v (.i64 x.2.1.A.Table),.v (.i64 x.2.1.A.Col),.v (.bool x.2.1.A.Value.Null),.v (.i64 x.2.1.A.Value.N),.v (.i64 x.2.1.B.Kind),.v (.i64 x.2.1.B.Table),.v (.i64 x.2.1.B.Col),.v (.bool x.2.1.B.Value.Null),.v (.i64 x.2.1.B.Value.N),.v (.slice .foreign (x.2.1.Parts.map AB.av))]),(3,[.v (.i64 x.2.2.Kind),.v (.i64 x.2.2.Truth),.v (.i64 x.2.2.Op),.v (.i64 x.2.2.A.Kind),.v (.i64 x.2.2.A.Table),.v (.i64 x.2.2.A.Col),.v (.bool x.2.2.A.Value.Null),.v (.i64 x.2.2.A.Value.N),.v (.i64 x.2.2.B.Kind),.v (.i64 x.2.2.B.Table),.v (.i64 x.2.2.B.Col),.v (.bool x.2.2.B.Value.Null),.v (.i64 x.2.2.B.Value.N),.v (.slice .foreign (x.2.2.Parts.map AB.av))])]⟩)∧PC Cb (fun x r=>Fn Tryz.prog 98 [.agg (AB.C x.1),.agg (AB.C x.2)] (.bool r)):=by
 refine Cb.l0.mutual_partial_correctness _ _ ?_ ?_
 ·intro JZ Wp Ip UY x o h
  have SZ:AH JZ _:=⟨Ip⟩
  have AJC:AH Wp _:=⟨UY⟩
  intro lo c Q hb hr
  refine AK.step mix AHk (by kernel_rfl) ?_
  simp -implicitDefEqProofs only[go_sem,Tryz.f98]
  exact AR
 ·intro JZ Ip x r h
  have SZ:AH JZ _:=⟨Ip⟩
  refine Fn.of_lc mix AHk AKF (by rfl) (flC (AB.flatC _) (flC (AB.flatC _) (flN))) (.atom _) ?_
  simp -implicitDefEqProofs only[go_sem,Tryz.f98]
  exact AR
instance Cb.w:type_of% (AH.mk Cb.l0.ws.2):=⟨Cb.l0.ws.2⟩
end
section
@[go_sem] theorem APs:lrp Tryz.prog 58 6=(10,[]):=by kernel_rfl
theorem ALI:okF Tryz.f58=true:=by kernel_rfl
def CJ.l0 (x:List AB × List AB × Int):Option (Lp (Unit) (Bool)) :=
 if(decide (x.2.2<(x.1.length:Int)))=true then
  (AU x.1 x.2.2)>>=fun (e3:AB) =>
  (AU x.2.1 x.2.2)>>=fun (e5:AB) =>
  Cb (e3,e5)>>=fun r7 =>
  if r7=true then
   CJ.l0 (x.1,x.2.1,(w64 (x.2.2+1)))
  else
   some (.ret false)
 else
  some (.brk ())
 partial_fixpoint
theorem CJ.l0.ws:PC CJ.l0 (fun x o=>∀ lo c (Q:EP) (hb:∀ s:Unit,o=Lp.brk s→Q (.exit 0) ⟨[],[]⟩) (hr:∀ (r:Bool) (L:AO),o=.ret r→DV Tryz.prog [.tmp 4] (.bool r) (fun _=>True) .ret L→Q .ret L),AK Tryz.prog 58 lo c 0 (VQ Q) ⟨[(0,.v (.slice .foreign (x.1.map AB.av))),(1,.v (.slice .foreign (x.2.1.map AB.av))),(5,.v (.i64 x.2.2))],[]⟩):=by
 refine CJ.l0.partial_correctness _ ?_
 ·intro SJ QC x o h
  have AFl:AH SJ _:=⟨QC⟩
  intro lo c Q hb hr
  refine AK.step mix AHu (by kernel_rfl) ?_
  simp -implicitDefEqProofs only[go_sem,Tryz.f58]
  exact AR
instance CJ.l0.w:type_of% (AH.mk CJ.l0.ws):=⟨CJ.l0.ws⟩
def CJ (x:List AB × List AB):Option (Bool) :=
 if((x.1.length:Int) != (x.2.length:Int))=true then
  some false
 else
  CJ.l0 (x.1,x.2,0)>>=fun (o10:Lp (Unit) (Bool))=>match o10 with
  | .brk s13 =>
   some true
  | .ret r12 =>
   some r12
instance CJ.w:AH CJ (fun x r=>Fn Tryz.prog 58 [.slice .foreign (x.1.map AB.av),.slice .foreign (x.2.map AB.av)] (.bool r)):=⟨by
 intro x r h
 rw[CJ] at h
 try dsimp only
 refine Fn.of_lc mix AHu ALI (by rfl) (flC (AT _ AB.flat _) (flC (AT _ AB.flat _) (flN))) (.atom _) ?_
 simp -implicitDefEqProofs only[go_sem,Tryz.f58]
 exact AR⟩
end
section
open Classical
theorem Mv (p:AB):p.size≤1000000→Cn p=some p:=by
 induction p using AB.induct with
 | h p ih =>
  intro hsz
  have hpl:=KS p
  have key:∀ (q:AB) n i (s:List AB),p.Parts.length - i=n→i≤p.Parts.length→s.length≤i →
    Cn.l0 (s,p.Parts,(p.Parts.length:Int),(i:Int),p,q)=some (s++p.Parts.drop i):=by
   intro q n
   induction n with
   | zero =>
    intro i s h1 h2 _
    obtain rfl:i=p.Parts.length:=by omega
    rw[Cn.l0,if_neg (dge (by dsimp only;omega)),List.drop_length,List.append_nil]
   | succ n ihn =>
    intro i s h1 h2 hs
    have hi:i<p.Parts.length:=by omega
    rw[List.drop_eq_getElem_cons hi]
    rw[Cn.l0,if_pos (dlt (by dsimp only;omega))]
    dsimp only
    rw[Ai hi]
    simp -implicitDefEqProofs only[Option.bind_eq_bind,Option.bind_some]
    have hm:=List.getElem_mem hi
    have hsz2:=KR hm
    rw[ih _ hm (by omega)]
    simp -implicitDefEqProofs only[Option.bind_some]
    rw[Bt (by simp only[List.length_cons,List.length_nil];omega),Aa (by omega)]
    simp -implicitDefEqProofs only[Option.bind_some]
    rw[ihn (i+1) _ (by omega) (by omega) (by rw[List.length_append];simp only[List.length_cons,List.length_nil];omega),List.append_assoc];rfl
  rw[Cn]
  have h0:=key ⟨0,0,0,⟨0,0,0,⟨false,0⟩⟩,⟨0,0,0,⟨false,0⟩⟩,[]⟩ p.Parts.length 0 [] (by omega) (by omega) (by simp)
  rw[show ((0:Nat):Int)=0 from rfl] at h0
  rw[h0,List.drop_zero,List.nil_append]
  obtain⟨a,b,c,d,e,f⟩:=p
  rfl
theorem AHe {α β:Type} {l:List α} {l':List β} (h:¬ l.length=l'.length):((l.length:Int) != (l'.length:Int))=true:=by
 simp only[bne_iff_ne,ne_eq];omega
theorem AH8 {α β:Type} {l:List α} {l':List β} (h:l.length=l'.length):¬ ((l.length:Int) != (l'.length:Int))=true:=by
 simp only[bne_iff_ne,ne_eq];omega
theorem AF5 {a b:BF} (h:((a.Kind == b.Kind)&&((a.Table == b.Table)&&((a.Col == b.Col)&&((a.Value.Null == b.Value.Null)&&(a.Value.N == b.Value.N)))))=true):a=b:=by
 obtain⟨a1,a2,a3,a4,a5⟩:=a
 obtain⟨b1,b2,b3,b4,b5⟩:=b
 simpa using h
theorem Xg (a b:BF):((a.Kind == b.Kind)&&((a.Table == b.Table)&&((a.Col == b.Col)&&((a.Value.Null == b.Value.Null)&&(a.Value.N == b.Value.N)))))=decide (a=b):=by
 rw[Bool.eq_iff_iff]
 constructor
 ·intro h;simpa using AF5 h
 ·intro h;have:a=b:=by simpa using h
  subst this;simp
theorem AAx (p q:AB):p=q ↔ p.Kind=q.Kind∧p.Truth=q.Truth∧p.Op=q.Op∧p.A=q.A∧p.B=q.B∧p.Parts=q.Parts:=by
 obtain⟨a,b,c,d,e,f⟩:=p
 obtain⟨a',b',c',d',e',f'⟩:=q
 simp
theorem ABe {α:Type} (l l':List α) (hlen:l.length=l'.length) (F:Nat→Option (Lp Unit Bool)) (P:α→Prop)
  (h0:F l.length=some (.brk ()))
  (hs:∀ i (h:i<l.length),F i=if l[i]=l'[i]'(hlen ▸ h) then F (i+1) else some (.ret false)):F 0=if l=l' then some (.brk ()) else some (.ret false):=by
 have key:∀ n i,l.length - i=n→i≤l.length→F i=if l.drop i=l'.drop i then some (.brk ()) else some (.ret false):=by
  intro n
  induction n with
  | zero =>
   intro i h1 h2
   obtain rfl:i=l.length:=by omega
   rw[h0,if_pos (by rw[List.drop_length,hlen,List.drop_length])]
  | succ n ih =>
   intro i h1 h2
   have hi:i<l.length:=by omega
   have hi':i<l'.length:=hlen ▸ hi
   rw[hs i hi,List.drop_eq_getElem_cons hi,List.drop_eq_getElem_cons hi',ih (i+1) (by omega) (by omega)]
   by_cases e:l[i]=l'[i]
   ·rw[if_pos e,e]
    by_cases e2:l.drop (i+1)=l'.drop (i+1)
    ·rw[if_pos e2,if_pos (by rw[e2])]
    ·rw[if_neg e2,if_neg (fun h=>e2 (List.cons.inj h).2)]
   ·rw[if_neg e,if_neg (fun h=>e (List.cons.inj h).1)]
 have:=key l.length 0 (by omega) (by omega)
 rwa [List.drop_zero,List.drop_zero] at this
theorem Xj (p:AB):∀ q:AB,p.size≤1000000→Cb (p,q)=some (decide (p=q)):=by
 induction p using AB.induct with
 | h p ih =>
  intro q hsz
  have hpl:=KS p
  rw[Cb]
  dsimp only
  rw[Xg,Xg]
  by_cases h1:p.Kind=q.Kind
  case neg=>rw[if_pos (by simpa using h1)];congr 1;exact(decide_eq_false (fun h=>h1 (by rw[h]))).symm
  rw[if_neg (by simpa using h1)]
  by_cases h2:p.Truth=q.Truth
  case neg=>rw[if_pos (by simpa using h2)];congr 1;exact(decide_eq_false (fun h=>h2 (by rw[h]))).symm
  rw[if_neg (by simpa using h2)]
  by_cases h3:p.Op=q.Op
  case neg=>rw[if_pos (by simpa using h3)];congr 1;exact(decide_eq_false (fun h=>h3 (by rw[h]))).symm
  rw[if_neg (by simpa using h3)]
  by_cases h4:p.A=q.A
  case neg=>rw[if_neg (by simpa using h4)];congr 1;exact(decide_eq_false (fun h=>h4 (by rw[h]))).symm
  rw[if_pos (by simpa using h4)]
  by_cases h5:p.B=q.B
  case neg=>rw[if_neg (by simpa using h5)];congr 1;exact(decide_eq_false (fun h=>h5 (by rw[h]))).symm
  rw[if_pos (by simpa using h5)]
  by_cases h6:p.Parts.length=q.Parts.length
  case neg=>rw[if_pos (AHe h6)];congr 1;exact(decide_eq_false (fun h=>h6 (by rw[h]))).symm
  rw[if_neg (AH8 h6)]
  have key:=ABe p.Parts q.Parts h6 (fun i=>Cb.l0 ((i:Int),p,q)) (fun _=>True) (by
   show Cb.l0 _=_
   rw[Cb.l0,if_neg (dge (by dsimp only;omega))]) (fun i h=>by
   show Cb.l0 _=_
   rw[Cb.l0,if_pos (dlt (by dsimp only;omega))]
   dsimp only
   rw[Ai h,Ai (h6 ▸ h),Aa (by omega)]
   simp -implicitDefEqProofs only[Option.bind_eq_bind,Option.bind_some]
   have hm:=List.getElem_mem h
   have hs:=KR hm
   rw[ih _ hm _ (by omega)]
   simp -implicitDefEqProofs only[Option.bind_some,decide_eq_true_eq])
  have key':Cb.l0 (0,p,q)=_:=key
  rw[key']
  by_cases e:p.Parts=q.Parts
  ·rw[if_pos e,decide_eq_true ((AAx p q).2 ⟨h1,h2,h3,h4,h5,e⟩)];rfl
  ·rw[if_neg e,decide_eq_false (fun h=>e (by rw[h]))];rfl
theorem YD (l l':List AB) (hlen:l.length≤1000000) (hsz:∀ p∈l,p.size≤1000000):CJ (l,l')=some (decide (l=l')):=by
 unfold CJ
 dsimp only
 by_cases h6:l.length=l'.length
 case neg=>rw[if_pos (AHe h6)];congr 1;exact(decide_eq_false (fun h=>h6 (by rw[h]))).symm
 rw[if_neg (AH8 h6)]
 have key:=ABe l l' h6 (fun i=>CJ.l0 (l,l',(i:Int))) (fun _=>True) (by
  show CJ.l0 _=_
  rw[CJ.l0,if_neg (dge (by dsimp only;omega))]) (fun i h=>by
  show CJ.l0 _=_
  rw[CJ.l0,if_pos (dlt (by dsimp only;omega))]
  dsimp only
  rw[Ai h,Ai (h6 ▸ h),Aa (by omega)]
  simp -implicitDefEqProofs only[Option.bind_eq_bind,Option.bind_some]
  rw[Xj _ _ (hsz _ (List.getElem_mem h))]
  simp -implicitDefEqProofs only[Option.bind_some,decide_eq_true_eq])
 have key':CJ.l0 (l,l',0)=_:=key
 rw[key']
 by_cases e:l=l'
 ·rw[if_pos e,decide_eq_true e];rfl
 ·rw[if_neg e,decide_eq_false e];rfl
end
section
def cnt (s:AC):Nat:=(List.range 64).countP fun j=>s.getLsbD j
theorem Nz (s:AC):DO s=some (cnt s:Int):=by
 unfold DO BD
 have key:=Gb (List.range 64) (fun i (acc:List Int)=>acc.length≤i) (fun i acc=>BD.l0 (s,acc,(i:Int))) (fun acc l=>some (acc++(l.filter fun j=>s.getLsbD j).map fun (j:Nat)=>(j:Int)))
  (fun acc _=>by
   show BD.l0 _=_
   rw[BD.l0,if_neg (by simp)]
   simp)
  (fun i acc h hacc ih=>by
   have hi:i<64:=by simpa using h
   show BD.l0 _=_
   rw[BD.l0,if_pos (by simp;omega)]
   dsimp only
   rw[FD,DW _ _ hi,Aa (by omega),List.getElem_range]
   simp -implicitDefEqProofs only[Option.bind_eq_bind,Option.bind_some]
   by_cases hb:s.getLsbD i=true
   ·rw[if_pos hb,Bt (by simp only[List.length_cons,List.length_nil];omega)]
    simp -implicitDefEqProofs only[Option.bind_some]
    have:=ih (acc++[(i:Int)]) (by rw[List.length_append];simp only[List.length_cons,List.length_nil];omega)
    rw[this,List.filter_cons_of_pos hb,List.map_cons,List.append_assoc];rfl
   ·rw[if_neg hb]
    have:=ih acc (by omega)
    rw[this,List.filter_cons_of_neg hb]) 0 [] (by simp) (by simp)
 have key':BD.l0 (s,[],0)=_:=key
 rw[key']
 simp -implicitDefEqProofs only[Option.bind_eq_bind,Option.bind_some]
 rw[List.drop_zero,List.nil_append,List.length_map,cnt,List.countP_eq_length_filter]
theorem AEm {α:Type} (p q:α→Bool):∀ (l:List α),(∀ x∈l,p x=true→q x=true)→(∃ x∈l,q x=true∧¬ p x=true)→l.countP p<l.countP q:=by
 intro l
 induction l with
 | nil=>intro _ ⟨x,hx,_⟩;cases hx
 | cons x l ih =>
  intro h1 ⟨y,hy,hq,hp⟩
  have hle:l.countP p≤l.countP q:=List.countP_mono_left fun z hz=>h1 z (List.mem_cons_of_mem _ hz)
  rw[List.countP_cons,List.countP_cons]
  rcases List.mem_cons.1 hy with rfl | hy
  ·rw[if_neg hp,if_pos hq];omega
  ·have:=ih (fun z hz=>h1 z (List.mem_cons_of_mem _ hz)) ⟨y,hy,hq,hp⟩
   have hx:=h1 x List.mem_cons_self
   by_cases e:p x=true
   ·rw[if_pos e,if_pos (hx e)];omega
   ·rw[if_neg e];split <;> omega
theorem Wr {s:AC} {n:Int} (h:Ad s n=true):∃ j:Nat,j<64∧n=(j:Int)∧s.getLsbD j=true:=by
 unfold Ad at h
 rw[Bool.and_eq_true,decide_eq_true_eq] at h
 exact⟨n.toNat,by omega,by omega,h.2⟩
theorem Ri (a b:AC):inS a b=true ↔ ∀ n,Ad a n=true→Ad b n=true:=by
 rw[KV]
 constructor
 ·intro h n hn
  obtain⟨j,hj,rfl,hb⟩:=Wr hn
  rw[DW _ _ hj];exact h j hj hb
 ·intro h j hj hb
  have:=h (j:Int) (by rw[DW _ _ hj];exact hb)
  rwa [DW _ _ hj] at this
theorem AEk {a b:AC} (h:∀ n,Ad a n=true→Ad b n=true) (h2:∃ n,Ad b n=true∧¬ Ad a n=true):cnt a<cnt b:=by
 unfold cnt
 refine AEm _ _ _ (fun j hj hb=>?_) ?_
 ·have hj:j<64:=by simpa using hj
  have:=h (j:Int) (by rw[DW _ _ hj];exact hb)
  rwa [DW _ _ hj] at this
 ·obtain⟨n,hb,ha⟩:=h2
  obtain⟨j,hj,rfl,hb2⟩:=Wr hb
  rw[DW _ _ hj] at ha
  exact⟨j,by simpa using hj,hb2,ha⟩
theorem WU (a b:AC) (n:Int):Ad (a|||b) n=(Ad a n || Ad b n):=by
 unfold Ad
 rw[BitVec.getLsbD_or]
 cases decide (0≤n∧n<64) <;> simp
theorem AHC (l:List Int) (n:Int):Ad (ofL l) n=true ↔ 0≤n∧n<64∧n∈l:=by
 constructor
 ·intro h
  obtain⟨j,hj,rfl,hb⟩:=Wr h
  rw[Rt _ _ hj,List.any_eq_true] at hb
  obtain⟨x,hx,hxj⟩:=hb
  have:x=(j:Int):=by simpa using hxj
  exact⟨by omega,by omega,this ▸ hx⟩
 ·intro ⟨h0,h1,h2⟩
  obtain⟨j,rfl⟩:∃ j:Nat,n=j:=⟨n.toNat,by omega⟩
  rw[DW _ _ (by omega),Rt _ _ (by omega),List.any_eq_true]
  exact⟨_,h2,by simp⟩
inductive Vq (cols:List Int) (t:AA):Prop
 | leaf (hk:t.Kind=0) (hks:t.Kids=[]) (hc:t.Conj=[]) (h0:0≤t.Table) (h1:t.Table<(cols.length:Int))
 | op (a b:AA) (hk1:1≤t.Kind) (hk2:t.Kind≤4) (hks:t.Kids=[a,b])
abbrev OkT (cols:List Int) (t:AA):Prop:=∀ y∈t.tour,Vq cols y
theorem Ld.bin {cols:List Int} {t:AA} (h:Ld cols t):Vq cols t:=by
 cases h with
 | leaf hk hks hc hh h0 h1=>exact .leaf hk hks hc h0 h1
 | op a b hk1 hk2 hks=>exact .op a b hk1 hk2 hks
theorem okT {cols:List Int} {t:AA} (h:∀ y∈t.tour,Ld cols y):OkT cols t:=fun y hy=>(h y hy).bin
theorem OkT.kid {cols:List Int} {t y:AA} (h:OkT cols t) (hy:y∈t.Kids):OkT cols y:=fun z hz=>h z (Zf hy z hz)
theorem OkT.self {cols:List Int} {t:AA} (h:OkT cols t):Vq cols t:=h t (Xf t)
theorem NL {t a b:AA} (h:t.Kids=[a,b]):t.tour=a.tour++b.tour++[t]:=by
 rw[Dk,h];simp
theorem AB0 {t:AA} (h:t.Kids=[]):t.tour=[t]:=by
 rw[Dk,h];simp
def NB (l:List AA):List AA:=l.filter fun y=>decide (1<y.Kind)
theorem ABA (l l':List AA):NB (l++l')=NB l++NB l':=List.filter_append _ _
abbrev CW (t:AA):Nat:=(NB t.tour).length
def EU (t:AA) (off:Nat) (home:Int):List (AA × Int) :=
 match h:t.Kids with
 | [a,b]=>EU a off home++EU b (off+CW a) (if 1<t.Kind then((off+CW a+CW b:Nat):Int) else home)++[(t,home)]
 | _=>[(t,home)]
termination_by t.size
decreasing_by
 ·exact Cc (by rw[h];simp)
 ·exact Cc (by rw[h];simp)
theorem Vw {t a b:AA} (h:t.Kids=[a,b]) (off:Nat) (home:Int):EU t off home=EU a off home++EU b (off+CW a) (if 1<t.Kind then((off+CW a+CW b:Nat):Int) else home)++[(t,home)]:=by
 rw[EU]
 split
 ·rename_i x y e
  rw[h] at e
  injection e with e1 e2
  injection e2 with e2 _
  subst e1;subst e2;rfl
 ·rename_i e;exact absurd h (e _ _)
theorem WA {t:AA} (h:t.Kids=[]) (off:Nat) (home:Int):EU t off home=[(t,home)]:=by
 rw[EU]
 split
 ·rename_i x y e
  rw[h] at e;cases e
 ·rfl
def Kh (l:List AB):AC:=l.foldl (fun s p=>s|||p.tabs) 0#64
theorem AE5 (l:List AB):∀ s:AC,l.foldl (fun s p=>s|||p.tabs) s=s|||Kh l:=by
 unfold Kh
 induction l with
 | nil=>intro s;simp
 | cons x l ih=>intro s;simp only[List.foldl_cons];rw[ih,ih (0#64|||x.tabs),BitVec.zero_or,BitVec.or_assoc]
theorem UQ (x:AB) (l:List AB):Kh (x :: l)=x.tabs|||Kh l:=by
 rw[Kh,List.foldl_cons,AE5,BitVec.zero_or]
def Nm (t:AA):AC:=match t.Kids with | a :: _=>AX a | _=>0#64
def WP (t:AA):AC:=match t.Kids with | _ :: b :: _=>AX b | _=>0#64
theorem MX {t a b:AA} (h:t.Kids=[a,b]):Nm t=AX a:=by unfold Nm;rw[h]
theorem Rv {t a b:AA} (h:t.Kids=[a,b]):WP t=AX b:=by unfold WP;rw[h]
end
section
theorem AIa:okF Tryz.f168=true:=by kernel_rfl
def Da (x:Bool):Option (Int) :=
 if x=true then
  some 2
 else
  some 0
instance Da.w:AH Da (fun x r=>Fn Tryz.prog 168 [.bool x] (.i64 r)):=⟨by
 intro x r h
 rw[Da] at h
 try dsimp only
 refine Fn.of_lc mix AKj AIa (by rfl) (flC (.atom _) (flN)) (.atom _) ?_
 simp -implicitDefEqProofs only[go_sem,Tryz.f168]
 exact AR⟩
end
section
theorem AI3:okF Tryz.f167=true:=by kernel_rfl
def Ev (x:Int × BT × BT):Option (Int) :=
 if x.2.1.Null=true then
  some 1
 else
  if x.2.2.Null=true then
   some 1
  else
   if(x.1 == 1)=true then
    Da (x.2.1.N == x.2.2.N)>>=fun r4 =>
    some r4
   else
    if(x.1 == 2)=true then
     Da (x.2.1.N != x.2.2.N)>>=fun r7 =>
     some r7
    else
     if(x.1 == 3)=true then
      Da (decide (x.2.1.N<x.2.2.N))>>=fun r10 =>
      some r10
     else
      if(x.1 == 4)=true then
       Da (decide (x.2.1.N≤x.2.2.N))>>=fun r13 =>
       some r13
      else
       if(x.1 == 5)=true then
        Da (decide (x.2.1.N > x.2.2.N))>>=fun r16 =>
        some r16
       else
        if(x.1 == 6)=true then
         Da (decide (x.2.1.N ≥ x.2.2.N))>>=fun r19 =>
         some r19
        else
         some 1
instance Ev.w:AH Ev (fun x r=>Fn Tryz.prog 167 [.i64 x.1,.agg (BT.C x.2.1),.agg (BT.C x.2.2)] (.i64 r)):=⟨by
 intro x r h
 rw[Ev] at h
 try dsimp only
 refine Fn.of_lc mix AKk AI3 (by rfl) (flC (.atom _) (flC (BT.flatC _) (flC (BT.flatC _) (flN)))) (.atom _) ?_
 simp -implicitDefEqProofs only[go_sem,Tryz.f167]
 exact AR⟩
end
section
theorem AIu:okF Tryz.f166=true:=by kernel_rfl
def FF (x:BF × AC):Option (Bool) :=
 if(x.1.Kind == 1)=true then
  CU (x.2,x.1.Table)>>=fun r2 =>
  if r2=true then
   some true
  else
   some false
 else
  some x.1.Value.Null
instance FF.w:AH FF (fun x r=>Fn Tryz.prog 166 [.agg (BF.C x.1),.w x.2] (.bool r)):=⟨by
 intro x r h
 rw[FF] at h
 try dsimp only
 refine Fn.of_lc mix AKz AIu (by rfl) (flC (BF.flatC _) (flC (.atom _) (flN))) (.atom _) ?_
 simp -implicitDefEqProofs only[go_sem,Tryz.f166]
 exact AR⟩
end
section
theorem AIB:okF Tryz.f160=true:=by kernel_rfl
theorem AJh:okF Tryz.f161=true:=by kernel_rfl
theorem AI1:okF Tryz.f162=true:=by kernel_rfl
theorem AJG:okF Tryz.f157=true:=by kernel_rfl
theorem AJp:okF Tryz.f164=true:=by kernel_rfl
mutual
def Ce.l0 (x:List AB × AC × Int):Option (Lp (Unit) (Bool)) :=
 if(decide (x.2.2<(x.1.length:Int)))=true then
  (AU x.1 x.2.2)>>=fun (e2:AB) =>
  Dh (e2,x.2.1,0)>>=fun r4 =>
  if r4=true then
   Ce.l0 (x.1,x.2.1,(w64 (x.2.2+1)))
  else
   Dh (e2,x.2.1,1)>>=fun r7 =>
   if r7=true then
    Ce.l0 (x.1,x.2.1,(w64 (x.2.2+1)))
   else
    Dh (e2,x.2.1,2)>>=fun r10 =>
    if r10=true then
     Ce.l0 (x.1,x.2.1,(w64 (x.2.2+1)))
    else
     some (.ret false)
 else
  some (.brk ())
 partial_fixpoint
def Dh (x:AB × AC × Int):Option (Bool) :=
 if(x.1.Kind == 1)=true then
  if(x.2.2 == x.1.Truth)=true then
   some true
  else
   if(x.2.2 == 1)=true then
    if(decide (x.1.Truth<0))=true then
     some true
    else
     some (decide (x.1.Truth > 2))
   else
    some false
 else
  if(x.1.Kind == 2)=true then
   if(decide (x.1.Op<1))=true then
    some (x.2.2 == 1)
   else
    if(decide (x.1.Op > 6))=true then
     some (x.2.2 == 1)
    else
     FF (x.1.A,x.2.1)>>=fun r8 =>
     if r8=true then
      some (x.2.2 == 1)
     else
      FF (x.1.B,x.2.1)>>=fun r11 =>
      if r11=true then
       some (x.2.2 == 1)
      else
       if(x.1.A.Kind == 1)=true then
        some true
       else
        if(x.1.B.Kind == 1)=true then
         some true
        else
         Ev (x.1.Op,x.1.A.Value,x.1.B.Value)>>=fun r16 =>
         some (x.2.2 == r16)
  else
   if(x.1.Kind == 3)=true then
    FF (x.1.A,x.2.1)>>=fun r19 =>
    if r19=true then
     some (x.2.2 == 2)
    else
     if(x.2.2 == 0)=true then
      some true
     else
      if(x.2.2 == 2)=true then
       some (x.1.A.Kind == 1)
      else
       some false
   else
    if(x.1.Kind == 4)=true then
     FE (x.1.Parts,x.2.1,x.2.2,2)>>=fun r25 =>
     some r25
    else
     if(x.1.Kind == 5)=true then
      FE (x.1.Parts,x.2.1,x.2.2,0)>>=fun r28 =>
      some r28
     else
      if(x.1.Kind == 6)=true then
       if(decide ((x.1.Parts.length:Int) > 0))=true then
        (x.1.Parts[0]?)>>=fun (e32:AB) =>
        Dh (e32,x.2.1,(w64 (2 - x.2.2)))>>=fun r34 =>
        some r34
       else
        some (x.2.2 == 1)
      else
       some (x.2.2 == 1)
 partial_fixpoint
def FE (x:List AB × AC × Int × Int):Option (Bool) :=
 Ce (x.1,x.2.1)>>=fun r1 =>
 if r1=true then
  if(x.2.2.1 == x.2.2.2)=true then
   Cl (x.1,x.2.1,x.2.2.2,x.2.2.2)>>=fun r5 =>
   some r5
  else
   if(x.2.2.1 == 1)=true then
    DE (x.1,x.2.1,1)>>=fun r8 =>
    if r8=true then
     Cl (x.1,x.2.1,1,x.2.2.2)>>=fun r11 =>
     some r11
    else
     some false
   else
    DE (x.1,x.2.1,(w64 (2 - x.2.2.2)))>>=fun r13 =>
    some r13
 else
  some false
 partial_fixpoint
def DE (x:List AB × AC × Int):Option (Bool) :=
 DE.l0 (x.1,x.2.1,x.2.2,0)>>=fun (o7:Lp (Unit) (Bool))=>match o7 with
 | .brk s10 =>
  some false
 | .ret r9 =>
  some r9
 partial_fixpoint
def DE.l0 (x:List AB × AC × Int × Int):Option (Lp (Unit) (Bool)) :=
 if(decide (x.2.2.2<(x.1.length:Int)))=true then
  (AU x.1 x.2.2.2)>>=fun (e2:AB) =>
  Dh (e2,x.2.1,x.2.2.1)>>=fun r4 =>
  if r4=true then
   some (.ret true)
  else
   DE.l0 (x.1,x.2.1,x.2.2.1,(w64 (x.2.2.2+1)))
 else
  some (.brk ())
 partial_fixpoint
def Cl (x:List AB × AC × Int × Int):Option (Bool) :=
 Cl.l0 (x.1,x.2.1,x.2.2.1,x.2.2.2,0)>>=fun (o10:Lp (Unit) (Bool))=>match o10 with
 | .brk s13 =>
  some true
 | .ret r12 =>
  some r12
 partial_fixpoint
def Cl.l0 (x:List AB × AC × Int × Int × Int):Option (Lp (Unit) (Bool)) :=
 if(decide (x.2.2.2.2<(x.1.length:Int)))=true then
  (AU x.1 x.2.2.2.2)>>=fun (e2:AB) =>
  Dh (e2,x.2.1,x.2.2.1)>>=fun r4 =>
  if r4=true then
   Cl.l0 (x.1,x.2.1,x.2.2.1,x.2.2.2.1,(w64 (x.2.2.2.2+1)))
  else
   Dh (e2,x.2.1,x.2.2.2.1)>>=fun r7 =>
   if r7=true then
    Cl.l0 (x.1,x.2.1,x.2.2.1,x.2.2.2.1,(w64 (x.2.2.2.2+1)))
   else
    some (.ret false)
 else
  some (.brk ())
 partial_fixpoint
def Ce (x:List AB × AC):Option (Bool) :=
 Ce.l0 (x.1,x.2,0)>>=fun (o13:Lp (Unit) (Bool))=>match o13 with
 | .brk s16 =>
  some true
 | .ret r15 =>
  some r15
 partial_fixpoint
end
theorem Ce.l0.ws:PC Ce.l0 (fun x o=>∀ lo c (Q:EP) (hb:∀ s:Unit,o=Lp.brk s→Q (.exit 0) ⟨[],[]⟩) (hr:∀ (r:Bool) (L:AO),o=.ret r→DV Tryz.prog [.tmp 4] (.bool r) (fun _=>True) .ret L→Q .ret L),AK Tryz.prog 160 lo c 0 (VQ Q) ⟨[(0,.v (.slice .foreign (x.1.map AB.av))),(1,.v (.w x.2.1)),(5,.v (.i64 x.2.2))],[]⟩)∧PC Dh (fun x r=>Fn Tryz.prog 164 [.agg (AB.C x.1),.w x.2.1,.i64 x.2.2] (.bool r))∧PC FE (fun x r=>Fn Tryz.prog 157 [.slice .foreign (x.1.map AB.av),.w x.2.1,.i64 x.2.2.1,.i64 x.2.2.2] (.bool r))∧PC DE (fun x r=>Fn Tryz.prog 162 [.slice .foreign (x.1.map AB.av),.w x.2.1,.i64 x.2.2] (.bool r))∧PC DE.l0 (fun x o=>∀ lo c (Q:EP) (hb:∀ s:Unit,o=Lp.brk s→Q (.exit 0) ⟨[],[]⟩) (hr:∀ (r:Bool) (L:AO),o=.ret r→DV Tryz.prog [.tmp 6] (.bool r) (fun _=>True) .ret L→Q .ret L),AK Tryz.prog 162 lo c 0 (VQ Q) ⟨[(0,.v (.slice .foreign (x.1.map AB.av))),(1,.v (.w x.2.1)),(2,.v (.i64 x.2.2.1)),(7,.v (.i64 x.2.2.2))],[]⟩)∧PC Cl (fun x r=>Fn Tryz.prog 161 [.slice .foreign (x.1.map AB.av),.w x.2.1,.i64 x.2.2.1,.i64 x.2.2.2] (.bool r))∧PC Cl.l0 (fun x o=>∀ lo c (Q:EP) (hb:∀ s:Unit,o=Lp.brk s→Q (.exit 0) ⟨[],[]⟩) (hr:∀ (r:Bool) (L:AO),o=.ret r→DV Tryz.prog [.tmp 8] (.bool r) (fun _=>True) .ret L→Q .ret L),AK Tryz.prog 161 lo c 0 (VQ Q) ⟨[(0,.v (.slice .foreign (x.1.map AB.av))),(1,.v (.w x.2.1)),(2,.v (.i64 x.2.2.1)),(3,.v (.i64 x.2.2.2.1)),(9,.v (.i64 x.2.2.2.2))],[]⟩)∧PC Ce (fun x r=>Fn Tryz.prog 160 [.slice .foreign (x.1.map AB.av),.w x.2] (.bool r)):=by
 refine Ce.l0.mutual_partial_correctness _ _ _ _ _ _ _ _ ?_ ?_ ?_ ?_ ?_ ?_ ?_ ?_
 ·intro KE Gv Jd Gc x o h
  have Tx:AH KE _:=⟨Jd⟩
  have NF:AH Gv _:=⟨Gc⟩
  intro lo c Q hb hr
  refine AK.step mix AE9 (by kernel_rfl) ?_
  simp -implicitDefEqProofs only[go_sem,Tryz.f160]
  exact AR
 ·intro Gv WE Gc Uj x r h
  have NF:AH Gv _:=⟨Gc⟩
  have AId:AH WE _:=⟨Uj⟩
  refine Fn.of_lc mix AKn AJp (by rfl) (flC (AB.flatC _) (flC (.atom _) (flC (.atom _) (flN)))) (.atom _) ?_
  simp -implicitDefEqProofs only[go_sem,Tryz.f164]
  exact AR
 ·intro Vx VO YF VX TY Vt x r h
  have AIn:AH Vx _:=⟨VX⟩
  have AHr:AH VO _:=⟨TY⟩
  have AJw:AH YF _:=⟨Vt⟩
  refine Fn.of_lc mix AK2 AJG (by rfl) (flC (AT _ AB.flat _) (flC (.atom _) (flC (.atom _) (flC (.atom _) (flN))))) (.atom _) ?_
  simp -implicitDefEqProofs only[go_sem,Tryz.f157]
  exact AR
 ·intro JU Iq x r h
  have Rz:AH JU _:=⟨Iq⟩
  refine Fn.of_lc mix AFR AI1 (by rfl) (flC (AT _ AB.flat _) (flC (.atom _) (flC (.atom _) (flN)))) (.atom _) ?_
  simp -implicitDefEqProofs only[go_sem,Tryz.f162]
  exact AR
 ·intro Gv JU Gc Iq x o h
  have NF:AH Gv _:=⟨Gc⟩
  have Rz:AH JU _:=⟨Iq⟩
  intro lo c Q hb hr
  refine AK.step mix AFR (by kernel_rfl) ?_
  simp -implicitDefEqProofs only[go_sem,Tryz.f162]
  exact AR
 ·intro Ir Id x r h
  have Qo:AH Ir _:=⟨Id⟩
  refine Fn.of_lc mix AFW AJh (by rfl) (flC (AT _ AB.flat _) (flC (.atom _) (flC (.atom _) (flC (.atom _) (flN))))) (.atom _) ?_
  simp -implicitDefEqProofs only[go_sem,Tryz.f161]
  exact AR
 ·intro Gv Ir Gc Id x o h
  have NF:AH Gv _:=⟨Gc⟩
  have Qo:AH Ir _:=⟨Id⟩
  intro lo c Q hb hr
  refine AK.step mix AFW (by kernel_rfl) ?_
  simp -implicitDefEqProofs only[go_sem,Tryz.f161]
  exact AR
 ·intro KE Jd x r h
  have Tx:AH KE _:=⟨Jd⟩
  refine Fn.of_lc mix AE9 AIB (by rfl) (flC (AT _ AB.flat _) (flC (.atom _) (flN))) (.atom _) ?_
  simp -implicitDefEqProofs only[go_sem,Tryz.f160]
  exact AR
instance FE.w:type_of% (AH.mk Ce.l0.ws.2.2.1):=⟨Ce.l0.ws.2.2.1⟩
end
section
theorem AIE:okF Tryz.f141=true:=by kernel_rfl
def Ew (x:List AB × AC):Option (Bool) :=
 FE (x.1,x.2,2,2)>>=fun r1 =>
 some (!r1)
instance Ew.w:AH Ew (fun x r=>Fn Tryz.prog 141 [.slice .foreign (x.1.map AB.av),.w x.2] (.bool r)):=⟨by
 intro x r h
 rw[Ew] at h
 try dsimp only
 refine Fn.of_lc mix ALN AIE (by rfl) (flC (AT _ AB.flat _) (flC (.atom _) (flN))) (.atom _) ?_
 simp -implicitDefEqProofs only[go_sem,Tryz.f141]
 exact AR⟩
end
section
theorem DT {α β:Type} {m:Option α} {f:α→Option β} (h:∃ a,m=some a) (k:∀ a,∃ b,f a=some b):∃ b,(m>>=f)=some b:=by
 obtain⟨a,ha⟩:=h
 rw[ha];exact k a
theorem RB (x:Int × BT × BT):∃ b,Ev x=some b:=by
 unfold Ev
 have ht:∀ b,∃ r,Da b=some r:=by
  intro b;unfold Da
  repeat' first | exact⟨_,rfl⟩ | apply CM
 repeat' first | exact⟨_,rfl⟩ | apply CM | exact DT (ht _) fun _=>⟨_,rfl⟩
theorem Ks (x:BF × AC):∃ b,FF x=some b:=by
 unfold FF
 rw[FD]
 refine CM (DT ⟨_,rfl⟩ fun _=>?_) ⟨_,rfl⟩
 exact CM ⟨_,rfl⟩ ⟨_,rfl⟩
theorem AAD (l:List AB) (hl:l.length≤1000000) (s:AC) (h:∀ p∈l,∀ t,∃ b,Dh (p,s,t)=some b):∃ b,Ce (l,s)=some b:=by
 have key:∀ n i,l.length - i=n→i≤l.length→∃ o,Ce.l0 (l,s,(i:Int))=some o:=by
  intro n
  induction n with
  | zero=>intro i h1 h2;rw[Ce.l0,if_neg (dge (by dsimp only;omega))];exact⟨_,rfl⟩
  | succ n ih =>
   intro i h1 h2
   have hi:i<l.length:=by omega
   have hA:l.length - (i+1)=n:=by omega
   have hB:i+1≤l.length:=by omega
   rw[Ce.l0,if_pos (dlt (by dsimp only;omega))]
   dsimp only
   rw[Ai hi,Aa (by omega)]
   simp -implicitDefEqProofs only[Option.bind_eq_bind,Option.bind_some]
   have hm:=h _ (List.getElem_mem hi)
   exact DT (hm 0) fun a=>CM (ih _ hA hB) (DT (hm 1) fun a=>CM (ih _ hA hB) (DT (hm 2) fun a=>CM (ih _ hA hB) ⟨_,rfl⟩))
 rw[Ce]
 obtain⟨o,ho⟩:=key _ 0 rfl (Nat.zero_le _)
 rw[show ((0:Nat):Int)=0 from rfl] at ho
 refine DT ⟨o,ho⟩ fun o=>?_
 cases o <;> exact⟨_,rfl⟩
theorem Pl (l:List AB) (hl:l.length≤1000000) (s:AC) (t:Int) (h:∀ p∈l,∀ t,∃ b,Dh (p,s,t)=some b):∃ b,DE (l,s,t)=some b:=by
 have key:∀ n i,l.length - i=n→i≤l.length→∃ o,DE.l0 (l,s,t,(i:Int))=some o:=by
  intro n
  induction n with
  | zero=>intro i h1 h2;rw[DE.l0,if_neg (dge (by dsimp only;omega))];exact⟨_,rfl⟩
  | succ n ih =>
   intro i h1 h2
   have hi:i<l.length:=by omega
   have hA:l.length - (i+1)=n:=by omega
   have hB:i+1≤l.length:=by omega
   rw[DE.l0,if_pos (dlt (by dsimp only;omega))]
   dsimp only
   rw[Ai hi,Aa (by omega)]
   simp -implicitDefEqProofs only[Option.bind_eq_bind,Option.bind_some]
   have hm:=h _ (List.getElem_mem hi)
   exact DT (hm t) fun a=>CM ⟨_,rfl⟩ (ih _ hA hB)
 rw[DE]
 obtain⟨o,ho⟩:=key _ 0 rfl (Nat.zero_le _)
 rw[show ((0:Nat):Int)=0 from rfl] at ho
 refine DT ⟨o,ho⟩ fun o=>?_
 cases o <;> exact⟨_,rfl⟩
theorem OG (l:List AB) (hl:l.length≤1000000) (s:AC) (t u:Int) (h:∀ p∈l,∀ t,∃ b,Dh (p,s,t)=some b):∃ b,Cl (l,s,t,u)=some b:=by
 have key:∀ n i,l.length - i=n→i≤l.length→∃ o,Cl.l0 (l,s,t,u,(i:Int))=some o:=by
  intro n
  induction n with
  | zero=>intro i h1 h2;rw[Cl.l0,if_neg (dge (by dsimp only;omega))];exact⟨_,rfl⟩
  | succ n ih =>
   intro i h1 h2
   have hi:i<l.length:=by omega
   have hA:l.length - (i+1)=n:=by omega
   have hB:i+1≤l.length:=by omega
   rw[Cl.l0,if_pos (dlt (by dsimp only;omega))]
   dsimp only
   rw[Ai hi,Aa (by omega)]
   simp -implicitDefEqProofs only[Option.bind_eq_bind,Option.bind_some]
   have hm:=h _ (List.getElem_mem hi)
   exact DT (hm t) fun a=>CM (ih _ hA hB) (DT (hm u) fun a=>CM (ih _ hA hB) ⟨_,rfl⟩)
 rw[Cl]
 obtain⟨o,ho⟩:=key _ 0 rfl (Nat.zero_le _)
 rw[show ((0:Nat):Int)=0 from rfl] at ho
 refine DT ⟨o,ho⟩ fun o=>?_
 cases o <;> exact⟨_,rfl⟩
theorem Ln (l:List AB) (hl:l.length≤1000000) (s:AC) (t u:Int) (h:∀ p∈l,∀ t,∃ b,Dh (p,s,t)=some b):∃ b,FE (l,s,t,u)=some b:=by
 rw[FE]
 refine DT (AAD l hl s h) fun a=>CM (CM (DT (OG l hl s _ _ h) fun _=>⟨_,rfl⟩) (CM (DT (Pl l hl s _ h) fun _=>CM (DT (OG l hl s _ _ h) fun _=>⟨_,rfl⟩) ⟨_,rfl⟩) (DT (Pl l hl s _ h) fun _=>⟨_,rfl⟩))) ⟨_,rfl⟩
theorem YG (p:AB):p.size≤1000000→∀ s t,∃ b,Dh (p,s,t)=some b:=by
 induction p using AB.induct with
 | h p ih =>
  intro hsz s t
  have hpl:=KS p
  have hp:∀ x∈p.Parts,∀ t,∃ b,Dh (x,s,t)=some b:=fun x hx t=>ih x hx (by have:=KR hx;omega) s t
  rw[Dh]
  dsimp only
  refine CM (CM ⟨_,rfl⟩ (CM (CM ⟨_,rfl⟩ ⟨_,rfl⟩) ⟨_,rfl⟩)) (CM (CM ⟨_,rfl⟩ (CM ⟨_,rfl⟩ (DT (Ks _) fun _=>CM ⟨_,rfl⟩ (DT (Ks _) fun _=>CM ⟨_,rfl⟩ (CM ⟨_,rfl⟩ (CM ⟨_,rfl⟩ (DT (RB _) fun _=>⟨_,rfl⟩))))))) (CM (DT (Ks _) fun _=>CM ⟨_,rfl⟩ (CM ⟨_,rfl⟩ (CM ⟨_,rfl⟩ ⟨_,rfl⟩))) (CM (DT (Ln _ (by omega) _ _ _ hp) fun _=>⟨_,rfl⟩) (CM (DT (Ln _ (by omega) _ _ _ hp) fun _=>⟨_,rfl⟩) (CM ?_ ⟨_,rfl⟩)))))
  by_cases h0:0<p.Parts.length
  ·rw[if_pos (by simp only[decide_eq_true_eq];omega),List.getElem?_eq_getElem h0]
   simp -implicitDefEqProofs only[Option.bind_eq_bind,Option.bind_some]
   exact DT (hp _ (List.getElem_mem h0) _) fun _=>⟨_,rfl⟩
  ·rw[if_neg (by simp only[decide_eq_true_eq];omega)];exact⟨_,rfl⟩
theorem Qq (l:List AB) (hl:l.length≤1000000) (hs:∀ p∈l,p.size≤1000000) (s:AC):∃ b,Ew (l,s)=some b:=by
 unfold Ew
 exact DT (Ln l hl s _ _ fun p hp t=>YG p (hs p hp) s t) fun _=>⟨_,rfl⟩
end
section
@[go_sem] theorem AOg:lrp Tryz.prog 46 14=(12,[]):=by kernel_rfl
@[go_sem] theorem AOR:lrp Tryz.prog 46 19=(25,[]):=by kernel_rfl
@[go_sem] theorem AOS:lrp Tryz.prog 46 28=(16,[]):=by kernel_rfl
theorem AKd:okF Tryz.f46=true:=by kernel_rfl
def AP.l0 (x:List AA × List AC × Int × AF × AF):Option (List AC) :=
 if(decide (x.2.2.1<(x.1.length:Int)))=true then
  (AU x.1 x.2.2.1)>>=fun (e4:AA) =>
  if(decide (e4.Kind > 1))=true then
   (e4.Kids[1]?)>>=fun (e7:AA) =>
   Aj e7>>=fun r9 =>
   (room 8 x.2.1 ([r9]))>>=fun (z11:List AC) =>
   AP.l0 (x.1,z11,(w64 (x.2.2.1+1)),x.2.2.2.1,x.2.2.2.2)
  else
   AP.l0 (x.1,x.2.1,(w64 (x.2.2.1+1)),x.2.2.2.1,x.2.2.2.2)
 else
  some x.2.1
 partial_fixpoint
theorem AP.l0.ws:PC AP.l0 (fun x o=>∀ lo c (Q:EP) (hb:∀ s:List AC,o=s→Q (.exit 0) ⟨[(2,.lref 2 0),(3,.lref 3 0),(4,.v (.slice .foreign (x.1.map AA.av))),(5,.own 100500 1 (s.map AV.w))],[(2,[.own 20000200 17 (x.2.2.2.1.Joins.map AQ.av),.own 20000201 6 (x.2.2.2.1.Ops.map AI.av)]),(3,[.own 20000300 17 (x.2.2.2.2.Joins.map AQ.av),.own 20000301 6 (x.2.2.2.2.Ops.map AI.av)])]⟩),AK Tryz.prog 46 lo c 0 (VQ Q) ⟨[(2,.lref 2 0),(3,.lref 3 0),(4,.v (.slice .foreign (x.1.map AA.av))),(5,.own 100500 1 (x.2.1.map AV.w)),(6,.v (.i64 x.2.2.1))],[(2,[.own 20000200 17 (x.2.2.2.1.Joins.map AQ.av),.own 20000201 6 (x.2.2.2.1.Ops.map AI.av)]),(3,[.own 20000300 17 (x.2.2.2.2.Joins.map AQ.av),.own 20000301 6 (x.2.2.2.2.Ops.map AI.av)])]⟩):=by
 refine AP.l0.partial_correctness _ ?_
 ·intro VK Tq x o h
  have AHp:AH VK _:=⟨Tq⟩
  intro lo c Q hb
  refine AK.step mix Ur (by kernel_rfl) ?_
  simp -implicitDefEqProofs only[go_sem,Tryz.f46]
  exact AR
instance AP.l0.w:type_of% (AH.mk AP.l0.ws):=⟨AP.l0.ws⟩
def AP.l2 (x:List AA × List AC × Int × AC × AC × Int × Int × AF × AF × AA):Option (Int) :=
 if(decide (x.2.2.2.2.2.2.1<(x.2.1.length:Int)))=true then
  (AU x.2.1 x.2.2.2.2.2.2.1)>>=fun (e28:AC) =>
  Bo ((x.2.2.2.1|||x.2.2.2.2.1),e28)>>=fun r30 =>
  if r30=true then
   if(decide (x.2.2.2.2.2.1<0))=true then
    AP.l2 (x.1,x.2.1,x.2.2.1,x.2.2.2.1,x.2.2.2.2.1,x.2.2.2.2.2.2.1,(w64 (x.2.2.2.2.2.2.1+1)),x.2.2.2.2.2.2.2.1,x.2.2.2.2.2.2.2.2.1,x.2.2.2.2.2.2.2.2.2)
   else
    DO e28>>=fun r34 =>
    (AU x.2.1 x.2.2.2.2.2.1)>>=fun (e36:AC) =>
    DO e36>>=fun r38 =>
    if(decide (r34<r38))=true then
     AP.l2 (x.1,x.2.1,x.2.2.1,x.2.2.2.1,x.2.2.2.2.1,x.2.2.2.2.2.2.1,(w64 (x.2.2.2.2.2.2.1+1)),x.2.2.2.2.2.2.2.1,x.2.2.2.2.2.2.2.2.1,x.2.2.2.2.2.2.2.2.2)
    else
     AP.l2 (x.1,x.2.1,x.2.2.1,x.2.2.2.1,x.2.2.2.2.1,x.2.2.2.2.2.1,(w64 (x.2.2.2.2.2.2.1+1)),x.2.2.2.2.2.2.2.1,x.2.2.2.2.2.2.2.2.1,x.2.2.2.2.2.2.2.2.2)
  else
   AP.l2 (x.1,x.2.1,x.2.2.1,x.2.2.2.1,x.2.2.2.2.1,x.2.2.2.2.2.1,(w64 (x.2.2.2.2.2.2.1+1)),x.2.2.2.2.2.2.2.1,x.2.2.2.2.2.2.2.2.1,x.2.2.2.2.2.2.2.2.2)
 else
  some x.2.2.2.2.2.1
 partial_fixpoint
theorem AP.l2.ws:PC AP.l2 (fun x o=>∀ lo c (Q:EP) (hb:∀ s:Int,o=s→Q (.exit 4) ⟨[(2,.lref 2 0),(3,.lref 3 0),(4,.v (.slice .foreign (x.1.map AA.av))),(5,.own 100500 1 (x.2.1.map AV.w)),(7,.v (.i64 x.2.2.1)),(8,.lref 8 0),(9,.v (.w x.2.2.2.1)),(10,.v (.w x.2.2.2.2.1)),(11,.v (.i64 s))],[(2,[.own 20000200 17 (x.2.2.2.2.2.2.2.1.Joins.map AQ.av),.own 20000201 6 (x.2.2.2.2.2.2.2.1.Ops.map AI.av)]),(3,[.own 20000300 17 (x.2.2.2.2.2.2.2.2.1.Joins.map AQ.av),.own 20000301 6 (x.2.2.2.2.2.2.2.2.1.Ops.map AI.av)]),(8,[.v (.i64 x.2.2.2.2.2.2.2.2.2.Kind),.v (.i64 x.2.2.2.2.2.2.2.2.2.Table),.v (.slice .foreign (x.2.2.2.2.2.2.2.2.2.Kids.map AA.av)),.v (.slice .foreign (x.2.2.2.2.2.2.2.2.2.Conj.map AB.av)),.v (.bool x.2.2.2.2.2.2.2.2.2.Hash)])]⟩),AK Tryz.prog 46 lo c 2 (VQ Q) ⟨[(2,.lref 2 0),(3,.lref 3 0),(4,.v (.slice .foreign (x.1.map AA.av))),(5,.own 100500 1 (x.2.1.map AV.w)),(7,.v (.i64 x.2.2.1)),(8,.lref 8 0),(9,.v (.w x.2.2.2.1)),(10,.v (.w x.2.2.2.2.1)),(11,.v (.i64 x.2.2.2.2.2.1)),(12,.v (.i64 x.2.2.2.2.2.2.1))],[(2,[.own 20000200 17 (x.2.2.2.2.2.2.2.1.Joins.map AQ.av),.own 20000201 6 (x.2.2.2.2.2.2.2.1.Ops.map AI.av)]),(3,[.own 20000300 17 (x.2.2.2.2.2.2.2.2.1.Joins.map AQ.av),.own 20000301 6 (x.2.2.2.2.2.2.2.2.1.Ops.map AI.av)]),(8,[.v (.i64 x.2.2.2.2.2.2.2.2.2.Kind),.v (.i64 x.2.2.2.2.2.2.2.2.2.Table),.v (.slice .foreign (x.2.2.2.2.2.2.2.2.2.Kids.map AA.av)),.v (.slice .foreign (x.2.2.2.2.2.2.2.2.2.Conj.map AB.av)),.v (.bool x.2.2.2.2.2.2.2.2.2.Hash)])]⟩):=by
 refine AP.l2.partial_correctness _ ?_
 ·intro UG TI x o h
  have AHv:AH UG _:=⟨TI⟩
  intro lo c Q hb
  refine AK.step mix Ur (by kernel_rfl) ?_
  simp -implicitDefEqProofs only[go_sem,Tryz.f46]
  exact AR
instance AP.l2.w:type_of% (AH.mk AP.l2.ws):=⟨AP.l2.ws⟩
def AP.l3 (x:List AA × List AC × Int × AC × AC × Int × AC × Int × AF × AF × AA):Option (AC × AF) :=
 if(decide (x.2.2.2.2.2.2.2.1<(x.2.2.2.2.2.2.2.2.2.2.Conj.length:Int)))=true then
  (AU x.2.2.2.2.2.2.2.2.2.2.Conj x.2.2.2.2.2.2.2.1)>>=fun (e44:AB) =>
  BH e44>>=fun r46 =>
  if(x.2.2.2.2.2.2.2.2.2.2.Kind == 1)=true then
   (room 152 x.2.2.2.2.2.2.2.2.2.1.Joins ([(⟨e44,(r46&&&x.2.2.2.1),(r46&&&x.2.2.2.2.1),x.2.2.2.2.2.1⟩:AQ)]))>>=fun (z49:List AQ) =>
   AP.l3 (x.1,x.2.1,x.2.2.1,x.2.2.2.1,x.2.2.2.2.1,x.2.2.2.2.2.1,(x.2.2.2.2.2.2.1|||r46),(w64 (x.2.2.2.2.2.2.2.1+1)),x.2.2.2.2.2.2.2.2.1,(⟨z49,x.2.2.2.2.2.2.2.2.2.1.Ops⟩:AF),x.2.2.2.2.2.2.2.2.2.2)
  else
   AP.l3 (x.1,x.2.1,x.2.2.1,x.2.2.2.1,x.2.2.2.2.1,x.2.2.2.2.2.1,(x.2.2.2.2.2.2.1|||r46),(w64 (x.2.2.2.2.2.2.2.1+1)),x.2.2.2.2.2.2.2.2.1,x.2.2.2.2.2.2.2.2.2.1,x.2.2.2.2.2.2.2.2.2.2)
 else
  some (x.2.2.2.2.2.2.1,x.2.2.2.2.2.2.2.2.2.1)
 partial_fixpoint
theorem AP.l3.ws:PC AP.l3 (fun x o=>∀ lo c (Q:EP) (hb:∀ s:AC × AF,o=s→Q (.exit 6) ⟨[(2,.lref 2 0),(3,.lref 3 0),(4,.v (.slice .foreign (x.1.map AA.av))),(5,.own 100500 1 (x.2.1.map AV.w)),(7,.v (.i64 x.2.2.1)),(8,.lref 8 0),(9,.v (.w x.2.2.2.1)),(10,.v (.w x.2.2.2.2.1)),(11,.v (.i64 x.2.2.2.2.2.1)),(13,.v (.w s.1))],[(2,[.own 20000200 17 (x.2.2.2.2.2.2.2.2.1.Joins.map AQ.av),.own 20000201 6 (x.2.2.2.2.2.2.2.2.1.Ops.map AI.av)]),(3,[.own 20000300 17 (s.2.Joins.map AQ.av),.own 20000301 6 (s.2.Ops.map AI.av)]),(8,[.v (.i64 x.2.2.2.2.2.2.2.2.2.2.Kind),.v (.i64 x.2.2.2.2.2.2.2.2.2.2.Table),.v (.slice .foreign (x.2.2.2.2.2.2.2.2.2.2.Kids.map AA.av)),.v (.slice .foreign (x.2.2.2.2.2.2.2.2.2.2.Conj.map AB.av)),.v (.bool x.2.2.2.2.2.2.2.2.2.2.Hash)])]⟩),AK Tryz.prog 46 lo c 3 (VQ Q) ⟨[(2,.lref 2 0),(3,.lref 3 0),(4,.v (.slice .foreign (x.1.map AA.av))),(5,.own 100500 1 (x.2.1.map AV.w)),(7,.v (.i64 x.2.2.1)),(8,.lref 8 0),(9,.v (.w x.2.2.2.1)),(10,.v (.w x.2.2.2.2.1)),(11,.v (.i64 x.2.2.2.2.2.1)),(13,.v (.w x.2.2.2.2.2.2.1)),(14,.v (.i64 x.2.2.2.2.2.2.2.1))],[(2,[.own 20000200 17 (x.2.2.2.2.2.2.2.2.1.Joins.map AQ.av),.own 20000201 6 (x.2.2.2.2.2.2.2.2.1.Ops.map AI.av)]),(3,[.own 20000300 17 (x.2.2.2.2.2.2.2.2.2.1.Joins.map AQ.av),.own 20000301 6 (x.2.2.2.2.2.2.2.2.2.1.Ops.map AI.av)]),(8,[.v (.i64 x.2.2.2.2.2.2.2.2.2.2.Kind),.v (.i64 x.2.2.2.2.2.2.2.2.2.2.Table),.v (.slice .foreign (x.2.2.2.2.2.2.2.2.2.2.Kids.map AA.av)),.v (.slice .foreign (x.2.2.2.2.2.2.2.2.2.2.Conj.map AB.av)),.v (.bool x.2.2.2.2.2.2.2.2.2.2.Hash)])]⟩):=by
 refine AP.l3.partial_correctness _ ?_
 ·intro UP Th x o h
  have AHm:AH UP _:=⟨Th⟩
  intro lo c Q hb
  refine AK.step mix Ur (by kernel_rfl) ?_
  simp -implicitDefEqProofs only[go_sem,Tryz.f46]
  exact AR
instance AP.l3.w:type_of% (AH.mk AP.l3.ws):=⟨AP.l3.ws⟩
def AP.l1 (x:List AA × List AC × Int × AF × AF):Option (AF) :=
 if(decide (x.2.2.1<(x.1.length:Int)))=true then
  (AU x.1 x.2.2.1)>>=fun (e16:AA) =>
  if(e16.Kind == 0)=true then
   AP.l1 (x.1,x.2.1,(w64 (x.2.2.1+1)),x.2.2.2.1,x.2.2.2.2)
  else
   (e16.Kids[0]?)>>=fun (e19:AA) =>
   Aj e19>>=fun r21 =>
   (e16.Kids[1]?)>>=fun (e23:AA) =>
   Aj e23>>=fun r25 =>
   AP.l2 (x.1,x.2.1,x.2.2.1,r21,r25, -1,0,x.2.2.2.1,x.2.2.2.2,e16)>>=fun (o41:Int) =>
   AP.l3 (x.1,x.2.1,x.2.2.1,r21,r25,o41,0#64,0,x.2.2.2.1,x.2.2.2.2,e16)>>=fun (o51:AC × AF) =>
   if(decide (e16.Kind > 1))=true then
    (room 64 o51.2.Ops ([(⟨e16.Kind,e16.Conj,(o51.1&&&r21),(o51.1&&&r25),r25,o41⟩:AI)]))>>=fun (z54:List AI) =>
    AP.l1 (x.1,x.2.1,(w64 (x.2.2.1+1)),x.2.2.2.1,(⟨o51.2.Joins,z54⟩:AF))
   else
    AP.l1 (x.1,x.2.1,(w64 (x.2.2.1+1)),x.2.2.2.1,o51.2)
 else
  some x.2.2.2.2
 partial_fixpoint
theorem AP.l1.ws:PC AP.l1 (fun x o=>∀ lo c (Q:EP) (hb:∀ s:AF,o=s→Q (.exit 2) ⟨[(2,.lref 2 0),(3,.lref 3 0)],[(2,[.own 20000200 17 (x.2.2.2.1.Joins.map AQ.av),.own 20000201 6 (x.2.2.2.1.Ops.map AI.av)]),(3,[.own 20000300 17 (s.Joins.map AQ.av),.own 20000301 6 (s.Ops.map AI.av)])]⟩),AK Tryz.prog 46 lo c 1 (VQ Q) ⟨[(2,.lref 2 0),(3,.lref 3 0),(4,.v (.slice .foreign (x.1.map AA.av))),(5,.own 100500 1 (x.2.1.map AV.w)),(7,.v (.i64 x.2.2.1))],[(2,[.own 20000200 17 (x.2.2.2.1.Joins.map AQ.av),.own 20000201 6 (x.2.2.2.1.Ops.map AI.av)]),(3,[.own 20000300 17 (x.2.2.2.2.Joins.map AQ.av),.own 20000301 6 (x.2.2.2.2.Ops.map AI.av)])]⟩):=by
 refine AP.l1.partial_correctness _ ?_
 ·intro UF UC x o h
  have AH5:AH UF _:=⟨UC⟩
  intro lo c Q hb
  refine AK.step mix Ur (by kernel_rfl) ?_
  simp -implicitDefEqProofs only[go_sem,Tryz.f46]
  exact AR
instance AP.l1.w:type_of% (AH.mk AP.l1.ws):=⟨AP.l1.ws⟩
def AP (x:AA):Option (AF) :=
 Bp x>>=fun r1 =>
 AP.l0 (r1,([]:List AC),0,(⟨[],[]⟩:AF),(⟨[],[]⟩:AF))>>=fun (o13:List AC) =>
 AP.l1 (r1,o13,0,(⟨[],[]⟩:AF),(⟨[],[]⟩:AF))>>=fun (o56:AF) =>
 some o56
instance AP.w:AH AP (fun x r=>Fn Tryz.prog 46 [.agg (AA.C x)] (.agg (AF.C r))):=⟨by
 intro x r h
 rw[AP] at h
 try dsimp only
 refine Fn.of_lc mix Ur AKd (by rfl) (flC (AA.flatC _) (flN)) (AF.flatC _) ?_
 simp -implicitDefEqProofs only[go_sem,Tryz.f46]
 exact AR⟩
end
section
theorem AIy:okF Tryz.f115=true:=by kernel_rfl
def FI (x:AI):Option (Bool) :=
 if(x.Kind == 2)=true then
  Ew (x.Conj,x.Left)>>=fun r2 =>
  some r2
 else
  some false
instance FI.w:AH FI (fun x r=>Fn Tryz.prog 115 [.agg (AI.C x)] (.bool r)):=⟨by
 intro x r h
 rw[FI] at h
 try dsimp only
 refine Fn.of_lc mix AMB AIy (by rfl) (flC (AI.flatC _) (flN)) (.atom _) ?_
 simp -implicitDefEqProofs only[go_sem,Tryz.f115]
 exact AR⟩
end
section
theorem AJg:okF Tryz.f117=true:=by kernel_rfl
def CP.l0 (x:List Int × Int × Int):Option (Lp (Unit) (Bool)) :=
 if(decide (x.2.2<(x.1.length:Int)))=true then
  (AU x.1 x.2.2)>>=fun (e2:Int) =>
  if(e2 == x.2.1)=true then
   some (.ret true)
  else
   CP.l0 (x.1,x.2.1,(w64 (x.2.2+1)))
 else
  some (.brk ())
 partial_fixpoint
theorem CP.l0.ws:PC CP.l0 (fun x o=>∀ lo c (Q:EP) (hb:∀ s:Unit,o=Lp.brk s→Q (.exit 0) ⟨[],[]⟩) (hr:∀ (r:Bool) (L:AO),o=.ret r→DV Tryz.prog [.tmp 4] (.bool r) (fun _=>True) .ret L→Q .ret L),AK Tryz.prog 117 lo c 0 (VQ Q) ⟨[(0,.v (.slice .foreign (x.1.map AV.i64))),(1,.v (.i64 x.2.1)),(5,.v (.i64 x.2.2))],[]⟩):=by
 refine CP.l0.partial_correctness _ ?_
 ·intro TK SG x o h
  have AGX:AH TK _:=⟨SG⟩
  intro lo c Q hb hr
  refine AK.step mix AEG (by kernel_rfl) ?_
  simp -implicitDefEqProofs only[go_sem,Tryz.f117]
  exact AR
instance CP.l0.w:type_of% (AH.mk CP.l0.ws):=⟨CP.l0.ws⟩
def CP (x:List Int × Int):Option (Bool) :=
 CP.l0 (x.1,x.2,0)>>=fun (o5:Lp (Unit) (Bool))=>match o5 with
 | .brk s8 =>
  some false
 | .ret r7 =>
  some r7
instance CP.w:AH CP (fun x r=>Fn Tryz.prog 117 [.slice .foreign (x.1.map AV.i64),.i64 x.2] (.bool r)):=⟨by
 intro x r h
 rw[CP] at h
 try dsimp only
 refine Fn.of_lc mix AEG AJg (by rfl) (flC (AT _ (fun _=>.atom _) _) (flC (.atom _) (flN))) (.atom _) ?_
 simp -implicitDefEqProofs only[go_sem,Tryz.f117]
 exact AR⟩
end
section
@[go_sem] theorem ANm:lrp Tryz.prog 118 12=(29,[]):=by kernel_rfl
theorem AJN:okF Tryz.f118=true:=by kernel_rfl
def An.l0 (x:Int × Int × List Int × List Int × AC × Int × AF):Option (Lp (Unit) (Bool)) :=
 if(decide (x.2.2.2.2.2.1<(x.2.2.2.2.2.2.Joins.length:Int)))=true then
  (AU x.2.2.2.2.2.2.Joins x.2.2.2.2.2.1)>>=fun (e8:AQ) =>
  if(e8.Home == x.1)=true then
   if((x.2.2.2.2.1&&&e8.Left) != 0#64)=true then
    some (.ret false)
   else
    if((x.2.2.2.2.1&&&e8.Right) != 0#64)=true then
     some (.ret false)
    else
     An.l0 (x.1,x.2.1,x.2.2.1,x.2.2.2.1,x.2.2.2.2.1,(w64 (x.2.2.2.2.2.1+1)),x.2.2.2.2.2.2)
  else
   An.l0 (x.1,x.2.1,x.2.2.1,x.2.2.2.1,x.2.2.2.2.1,(w64 (x.2.2.2.2.2.1+1)),x.2.2.2.2.2.2)
 else
  some (.brk ())
 partial_fixpoint
theorem An.l0.ws:PC An.l0 (fun x o=>∀ lo c (Q:EP) (hb:∀ s:Unit,o=Lp.brk s→Q (.exit 0) ⟨[(2,.v (.i64 x.2.1)),(3,.v (.slice .foreign (x.2.2.1.map AV.i64))),(4,.v (.slice .foreign (x.2.2.2.1.map AV.i64))),(5,.lref 5 0),(11,.v (.w x.2.2.2.2.1))],[(5,[.v (.slice .foreign (x.2.2.2.2.2.2.Joins.map AQ.av)),.v (.slice .foreign (x.2.2.2.2.2.2.Ops.map AI.av))])]⟩) (hr:∀ (r:Bool) (L:AO),o=.ret r→DV Tryz.prog [.tmp 10] (.bool r) (fun _=>True) .ret L→Q .ret L),AK Tryz.prog 118 lo c 0 (VQ Q) ⟨[(1,.v (.i64 x.1)),(2,.v (.i64 x.2.1)),(3,.v (.slice .foreign (x.2.2.1.map AV.i64))),(4,.v (.slice .foreign (x.2.2.2.1.map AV.i64))),(5,.lref 5 0),(11,.v (.w x.2.2.2.2.1)),(12,.v (.i64 x.2.2.2.2.2.1))],[(5,[.v (.slice .foreign (x.2.2.2.2.2.2.Joins.map AQ.av)),.v (.slice .foreign (x.2.2.2.2.2.2.Ops.map AI.av))])]⟩):=by
 refine An.l0.partial_correctness _ ?_
 ·intro Sf RC x o h
  have AF2:AH Sf _:=⟨RC⟩
  intro lo c Q hb hr
  refine AK.step mix Zy (by kernel_rfl) ?_
  simp -implicitDefEqProofs only[go_sem,Tryz.f118]
  exact AR
instance An.l0.w:type_of% (AH.mk An.l0.ws):=⟨An.l0.ws⟩
def An.l1 (x:Int × List Int × List Int × AC × Int × AF):Option (Lp (Unit) (Bool)) :=
 if(decide (x.2.2.2.2.1<(x.2.1.length:Int)))=true then
  (AU x.2.1 x.2.2.2.2.1)>>=fun (e18:Int) =>
  if(e18 != x.1)=true then
   CP (x.2.2.1,e18)>>=fun r21 =>
   if r21=true then
    An.l1 (x.1,x.2.1,x.2.2.1,x.2.2.2.1,(w64 (x.2.2.2.2.1+1)),x.2.2.2.2.2)
   else
    (AU x.2.2.2.2.2.Ops e18)>>=fun (e24:AI) =>
    if((x.2.2.2.1&&&e24.Left) != 0#64)=true then
     some (.ret false)
    else
     An.l1 (x.1,x.2.1,x.2.2.1,x.2.2.2.1,(w64 (x.2.2.2.2.1+1)),x.2.2.2.2.2)
  else
   An.l1 (x.1,x.2.1,x.2.2.1,x.2.2.2.1,(w64 (x.2.2.2.2.1+1)),x.2.2.2.2.2)
 else
  some (.brk ())
 partial_fixpoint
theorem An.l1.ws:PC An.l1 (fun x o=>∀ lo c (Q:EP) (hb:∀ s:Unit,o=Lp.brk s→Q (.exit 2) ⟨[],[]⟩) (hr:∀ (r:Bool) (L:AO),o=.ret r→DV Tryz.prog [.tmp 10] (.bool r) (fun _=>True) .ret L→Q .ret L),AK Tryz.prog 118 lo c 1 (VQ Q) ⟨[(2,.v (.i64 x.1)),(3,.v (.slice .foreign (x.2.1.map AV.i64))),(4,.v (.slice .foreign (x.2.2.1.map AV.i64))),(5,.lref 5 0),(11,.v (.w x.2.2.2.1)),(13,.v (.i64 x.2.2.2.2.1))],[(5,[.v (.slice .foreign (x.2.2.2.2.2.Joins.map AQ.av)),.v (.slice .foreign (x.2.2.2.2.2.Ops.map AI.av))])]⟩):=by
 refine An.l1.partial_correctness _ ?_
 ·intro Sa Qc x o h
  have AFq:AH Sa _:=⟨Qc⟩
  intro lo c Q hb hr
  refine AK.step mix Zy (by kernel_rfl) ?_
  simp -implicitDefEqProofs only[go_sem,Tryz.f118]
  exact AR
instance An.l1.w:type_of% (AH.mk An.l1.ws):=⟨An.l1.ws⟩
def An (x:AF × Int × Int × List Int × List Int):Option (Bool) :=
 (AU x.1.Ops x.2.2.1)>>=fun (e1:AI) =>
 (AU x.1.Ops x.2.1)>>=fun (e3:AI) =>
 if((e1.Own&&&e3.Left) != 0#64)=true then
  some false
 else
  if((e1.Own&&&e3.Right) != 0#64)=true then
   some false
  else
   An.l0 (x.2.1,x.2.2.1,x.2.2.2.1,x.2.2.2.2,e1.Own,0,x.1)>>=fun (o13:Lp (Unit) (Bool))=>match o13 with
   | .brk s16 =>
    An.l1 (x.2.2.1,x.2.2.2.1,x.2.2.2.2,e1.Own,0,x.1)>>=fun (o27:Lp (Unit) (Bool))=>match o27 with
    | .brk s30 =>
     some true
    | .ret r29 =>
     some r29
   | .ret r15 =>
    some r15
instance An.w:AH An (fun x r=>Fn Tryz.prog 118 [.agg (AF.C x.1),.i64 x.2.1,.i64 x.2.2.1,.slice .foreign (x.2.2.2.1.map AV.i64),.slice .foreign (x.2.2.2.2.map AV.i64)] (.bool r)):=⟨by
 intro x r h
 rw[An] at h
 try dsimp only
 refine Fn.of_lc mix Zy AJN (by rfl) (flC (AF.flatC _) (flC (.atom _) (flC (.atom _) (flC (AT _ (fun _=>.atom _) _) (flC (AT _ (fun _=>.atom _) _) (flN)))))) (.atom _) ?_
 simp -implicitDefEqProofs only[go_sem,Tryz.f118]
 exact AR⟩
end
section
theorem AK9:okF Tryz.f87=true:=by kernel_rfl
def AY.l2 (x:Int × List Int × List Int × List Int × Int × AF):Option (List Int) :=
 if(decide (x.2.2.2.2.1<(x.2.2.2.2.2.Ops.length:Int)))=true then
  CP (x.2.2.1,x.2.2.2.2.1)>>=fun r26 =>
  if r26=true then
   An (x.2.2.2.2.2,x.1,x.2.2.2.2.1,x.2.1,x.2.2.1)>>=fun r29 =>
   if r29=true then
    (room 8 x.2.2.2.1 ([x.2.2.2.2.1]))>>=fun (z32:List Int) =>
    AY.l2 (x.1,x.2.1,x.2.2.1,z32,(w64 (x.2.2.2.2.1+1)),x.2.2.2.2.2)
   else
    AY.l2 (x.1,x.2.1,x.2.2.1,x.2.2.2.1,(w64 (x.2.2.2.2.1+1)),x.2.2.2.2.2)
  else
   AY.l2 (x.1,x.2.1,x.2.2.1,x.2.2.2.1,(w64 (x.2.2.2.2.1+1)),x.2.2.2.2.2)
 else
  some x.2.2.2.1
 partial_fixpoint
theorem AY.l2.ws:PC AY.l2 (fun x o=>∀ lo c (Q:EP) (hb:∀ s:List Int,o=s→Q (.exit 4) ⟨[(1,.v (.i64 x.1)),(2,.lref 2 0),(5,.own 100500 1 (x.2.1.map AV.i64)),(6,.own 100600 1 (x.2.2.1.map AV.i64)),(9,.own 100900 1 (s.map AV.i64))],[(2,[.v (.slice .foreign (x.2.2.2.2.2.Joins.map AQ.av)),.v (.slice .foreign (x.2.2.2.2.2.Ops.map AI.av))])]⟩),AK Tryz.prog 87 lo c 2 (VQ Q) ⟨[(1,.v (.i64 x.1)),(2,.lref 2 0),(5,.own 100500 1 (x.2.1.map AV.i64)),(6,.own 100600 1 (x.2.2.1.map AV.i64)),(9,.own 100900 1 (x.2.2.2.1.map AV.i64)),(10,.v (.i64 x.2.2.2.2.1))],[(2,[.v (.slice .foreign (x.2.2.2.2.2.Joins.map AQ.av)),.v (.slice .foreign (x.2.2.2.2.2.Ops.map AI.av))])]⟩):=by
 refine AY.l2.partial_correctness _ ?_
 ·intro SS RK x o h
  have AFg:AH SS _:=⟨RK⟩
  intro lo c Q hb
  refine AK.step mix Ya (by kernel_rfl) ?_
  simp -implicitDefEqProofs only[go_sem,Tryz.f87]
  exact AR
instance AY.l2.w:type_of% (AH.mk AY.l2.ws):=⟨AY.l2.ws⟩
def AY.l1 (x:Int × List Int × List Int × AF):Option (List Int) :=
 AY.l2 (x.1,x.2.1,x.2.2.1,([]:List Int),0,x.2.2.2)>>=fun (o34:List Int) =>
 if((o34.length:Int) == (x.2.2.1.length:Int))=true then
  some o34
 else
  AY.l1 (x.1,x.2.1,o34,x.2.2.2)
 partial_fixpoint
theorem AY.l1.ws:PC AY.l1 (fun x o=>∀ lo c (Q:EP) (hr:∀ (L:AO),DV Tryz.prog [.tmp 4] (.slice .foreign (o.map AV.i64)) (fun _=>True) .ret L→Q .ret L),AK Tryz.prog 87 lo c 1 (VQ Q) ⟨[(1,.v (.i64 x.1)),(2,.lref 2 0),(5,.own 100500 1 (x.2.1.map AV.i64)),(6,.own 100600 1 (x.2.2.1.map AV.i64))],[(2,[.v (.slice .foreign (x.2.2.2.Joins.map AQ.av)),.v (.slice .foreign (x.2.2.2.Ops.map AI.av))])]⟩):=by
 refine AY.l1.partial_correctness _ ?_
 ·intro SX RY x o h
  have AFf:AH SX _:=⟨RY⟩
  intro lo c Q hr
  refine AK.step mix Ya (by kernel_rfl) ?_
  simp -implicitDefEqProofs only[go_sem,Tryz.f87]
  exact AR
instance AY.l1.w:type_of% (AH.mk AY.l1.ws):=⟨AY.l1.ws⟩
mutual
def AY.l0 (x:Int × List Int × List Int × Int × AF):Option (List Int × List Int) :=
 if(decide (x.2.2.2.1<(x.2.2.2.2.Ops.length:Int)))=true then
  (AU x.2.2.2.2.Ops x.2.2.2.1)>>=fun (e7:AI) =>
  if(e7.Home != x.1)=true then
   AY.l0 (x.1,x.2.1,x.2.2.1,(w64 (x.2.2.2.1+1)),x.2.2.2.2)
  else
   AY (x.2.2.2.2,x.2.2.2.1)>>=fun r10 =>
   (room 8 x.2.1 ([x.2.2.2.1]))>>=fun (z12:List Int) =>
   (room 8 z12 r10)>>=fun (z14:List Int) =>
   (room 8 x.2.2.1 r10)>>=fun (z16:List Int) =>
   FI e7>>=fun r18 =>
   if r18=true then
    (room 8 z16 ([x.2.2.2.1]))>>=fun (z21:List Int) =>
    AY.l0 (x.1,z14,z21,(w64 (x.2.2.2.1+1)),x.2.2.2.2)
   else
    AY.l0 (x.1,z14,z16,(w64 (x.2.2.2.1+1)),x.2.2.2.2)
 else
  some (x.2.1,x.2.2.1)
 partial_fixpoint
def AY (x:AF × Int):Option (List Int) :=
 if(decide (x.2<0))=true then
  some ([]:List Int)
 else
  if(decide (x.2 ≥ (x.1.Ops.length:Int)))=true then
   some ([]:List Int)
  else
   (AU x.1.Ops x.2)>>=fun (e3:AI) =>
   if(e3.Kind != 2)=true then
    some ([]:List Int)
   else
    AY.l0 (x.2,([]:List Int),([]:List Int),0,x.1)>>=fun (o23:List Int × List Int) =>
    AY.l1 (x.2,o23.1,o23.2,x.1)>>=fun (o37:List Int) =>
    some o37
 partial_fixpoint
end
theorem AY.l0.ws:PC AY.l0 (fun x o=>∀ lo c (Q:EP) (hb:∀ s:List Int × List Int,o=s→Q (.exit 0) ⟨[(1,.v (.i64 x.1)),(2,.lref 2 0),(5,.own 100500 1 (s.1.map AV.i64)),(6,.own 100600 1 (s.2.map AV.i64))],[(2,[.v (.slice .foreign (x.2.2.2.2.Joins.map AQ.av)),.v (.slice .foreign (x.2.2.2.2.Ops.map AI.av))])]⟩),AK Tryz.prog 87 lo c 0 (VQ Q) ⟨[(1,.v (.i64 x.1)),(2,.lref 2 0),(5,.own 100500 1 (x.2.1.map AV.i64)),(6,.own 100600 1 (x.2.2.1.map AV.i64)),(7,.v (.i64 x.2.2.2.1))],[(2,[.v (.slice .foreign (x.2.2.2.2.Joins.map AQ.av)),.v (.slice .foreign (x.2.2.2.2.Ops.map AI.av))])]⟩)∧PC AY (fun x r=>Fn Tryz.prog 87 [.agg (AF.C x.1),.i64 x.2] (.slice .foreign (r.map AV.i64))):=by
 refine AY.l0.mutual_partial_correctness _ _ ?_ ?_
 ·intro Ja Wv Io UV x o h
  have Sb:AH Ja _:=⟨Io⟩
  have AIR:AH Wv _:=⟨UV⟩
  intro lo c Q hb
  refine AK.step mix Ya (by kernel_rfl) ?_
  simp -implicitDefEqProofs only[go_sem,Tryz.f87]
  exact AR
 ·intro Ja Io x r h
  have Sb:AH Ja _:=⟨Io⟩
  refine Fn.of_lc mix Ya AK9 (by rfl) (flC (AF.flatC _) (flC (.atom _) (flN))) (AT _ (fun _=>.atom _) _) ?_
  simp -implicitDefEqProofs only[go_sem,Tryz.f87]
  exact AR
instance AY.w:type_of% (AH.mk AY.l0.ws.2):=⟨AY.l0.ws.2⟩
end
section
@[go_sem] theorem APg:lrp Tryz.prog 48 8=(12,[]):=by kernel_rfl
theorem AKx:okF Tryz.f48=true:=by kernel_rfl
def CB.l0 (x:AC × List Int × Int × AF):Option (AC) :=
 if(decide (x.2.2.1<(x.2.1.length:Int)))=true then
  (AU x.2.1 x.2.2.1)>>=fun (e8:Int) =>
  (AU x.2.2.2.Ops e8)>>=fun (e10:AI) =>
  CB.l0 ((x.1&&&~~~e10.Own),x.2.1,(w64 (x.2.2.1+1)),x.2.2.2)
 else
  some x.1
 partial_fixpoint
theorem CB.l0.ws:PC CB.l0 (fun x o=>∀ lo c (Q:EP) (hb:∀ s:AC,o=s→Q (.exit 0) ⟨[(5,.v (.w s))],[]⟩),AK Tryz.prog 48 lo c 0 (VQ Q) ⟨[(2,.lref 2 0),(5,.v (.w x.1)),(6,.v (.slice .foreign (x.2.1.map AV.i64))),(7,.v (.i64 x.2.2.1))],[(2,[.v (.slice .foreign (x.2.2.2.Joins.map AQ.av)),.v (.slice .foreign (x.2.2.2.Ops.map AI.av))])]⟩):=by
 refine CB.l0.partial_correctness _ ?_
 ·intro Sj RU x o h
  have AF1:AH Sj _:=⟨RU⟩
  intro lo c Q hb
  refine AK.step mix AH3 (by kernel_rfl) ?_
  simp -implicitDefEqProofs only[go_sem,Tryz.f48]
  exact AR
instance CB.l0.w:type_of% (AH.mk CB.l0.ws):=⟨CB.l0.ws⟩
def CB (x:AF × Int):Option (AC) :=
 if(decide (x.2<0))=true then
  some (0#64)
 else
  if(decide (x.2 ≥ (x.1.Ops.length:Int)))=true then
   some (0#64)
  else
   (AU x.1.Ops x.2)>>=fun (e3:AI) =>
   AY (x.1,x.2)>>=fun r5 =>
   CB.l0 (e3.Own,r5,0,x.1)>>=fun (o12:AC) =>
   some o12
instance CB.w:AH CB (fun x r=>Fn Tryz.prog 48 [.agg (AF.C x.1),.i64 x.2] (.w r)):=⟨by
 intro x r h
 rw[CB] at h
 try dsimp only
 refine Fn.of_lc mix AH3 AKx (by rfl) (flC (AF.flatC _) (flC (.atom _) (flN))) (.atom _) ?_
 simp -implicitDefEqProofs only[go_sem,Tryz.f48]
 exact AR⟩
end
section
theorem AL5:okF Tryz.f86=true:=by kernel_rfl
def DK (x:AF × Int × Int):Option (Bool) :=
 if(decide (x.2.1<0))=true then
  some false
 else
  if(decide (x.2.1 ≥ (x.1.Ops.length:Int)))=true then
   some false
  else
   (AU x.1.Ops x.2.1)>>=fun (e3:AI) =>
   if(e3.Home == x.2.2)=true then
    some true
   else
    DK (x.1,e3.Home,x.2.2)>>=fun r6 =>
    some r6
 partial_fixpoint
theorem DK.ws:PC DK (fun x r=>Fn Tryz.prog 86 [.agg (AF.C x.1),.i64 x.2.1,.i64 x.2.2] (.bool r)):=by
 refine DK.partial_correctness _ ?_
 ·intro TJ Sh x r h
  have AGg:AH TJ _:=⟨Sh⟩
  refine Fn.of_lc mix ANR AL5 (by rfl) (flC (AF.flatC _) (flC (.atom _) (flC (.atom _) (flN)))) (.atom _) ?_
  simp -implicitDefEqProofs only[go_sem,Tryz.f86]
  exact AR
instance DK.w:type_of% (AH.mk DK.ws):=⟨DK.ws⟩
end
section
@[go_sem] theorem APS:lrp Tryz.prog 47 6=(13,[]):=by kernel_rfl
theorem ALG:okF Tryz.f47=true:=by kernel_rfl
def Ak.l1 (x:Int × AC × AC × Int × AF):Option (AC) :=
 if(decide (x.2.2.2.1<(x.2.2.2.2.Ops.length:Int)))=true then
  DK (x.2.2.2.2,x.2.2.2.1,x.1)>>=fun r2 =>
  if r2=true then
   (AU x.2.2.2.2.Ops x.2.2.2.1)>>=fun (e5:AI) =>
   if((e5.Own&&&x.2.1) != 0#64)=true then
    CB (x.2.2.2.2,x.2.2.2.1)>>=fun r8 =>
    Ak.l1 (x.1,((x.2.1|||r8)|||e5.Left),x.2.2.1,(w64 (x.2.2.2.1+1)),x.2.2.2.2)
   else
    Ak.l1 (x.1,x.2.1,x.2.2.1,(w64 (x.2.2.2.1+1)),x.2.2.2.2)
  else
   Ak.l1 (x.1,x.2.1,x.2.2.1,(w64 (x.2.2.2.1+1)),x.2.2.2.2)
 else
  some x.2.1
 partial_fixpoint
theorem Ak.l1.ws:PC Ak.l1 (fun x o=>∀ lo c (Q:EP) (hb:∀ s:AC,o=s→Q (.exit 2) ⟨[(1,.v (.i64 x.1)),(2,.v (.w s)),(3,.lref 3 0),(7,.v (.w x.2.2.1))],[(3,[.v (.slice .foreign (x.2.2.2.2.Joins.map AQ.av)),.v (.slice .foreign (x.2.2.2.2.Ops.map AI.av))])]⟩),AK Tryz.prog 47 lo c 1 (VQ Q) ⟨[(1,.v (.i64 x.1)),(2,.v (.w x.2.1)),(3,.lref 3 0),(7,.v (.w x.2.2.1)),(8,.v (.i64 x.2.2.2.1))],[(3,[.v (.slice .foreign (x.2.2.2.2.Joins.map AQ.av)),.v (.slice .foreign (x.2.2.2.2.Ops.map AI.av))])]⟩):=by
 refine Ak.l1.partial_correctness _ ?_
 ·intro Se QZ x o h
  have AFv:AH Se _:=⟨QZ⟩
  intro lo c Q hb
  refine AK.step mix ABi (by kernel_rfl) ?_
  simp -implicitDefEqProofs only[go_sem,Tryz.f47]
  exact AR
instance Ak.l1.w:type_of% (AH.mk Ak.l1.ws):=⟨Ak.l1.ws⟩
def Ak.l0 (x:Int × AC × AF):Option (AC) :=
 Ak.l1 (x.1,x.2.1,x.2.1,0,x.2.2)>>=fun (o10:AC) =>
 if(o10 == x.2.1)=true then
  some o10
 else
  Ak.l0 (x.1,o10,x.2.2)
 partial_fixpoint
theorem Ak.l0.ws:PC Ak.l0 (fun x o=>∀ lo c (Q:EP) (hr:∀ (L:AO),DV Tryz.prog [.tmp 6] (.w o) (fun _=>True) .ret L→Q .ret L),AK Tryz.prog 47 lo c 0 (VQ Q) ⟨[(1,.v (.i64 x.1)),(2,.v (.w x.2.1)),(3,.lref 3 0)],[(3,[.v (.slice .foreign (x.2.2.Joins.map AQ.av)),.v (.slice .foreign (x.2.2.Ops.map AI.av))])]⟩):=by
 refine Ak.l0.partial_correctness _ ?_
 ·intro SP Qr x o h
  have AFu:AH SP _:=⟨Qr⟩
  intro lo c Q hr
  refine AK.step mix ABi (by kernel_rfl) ?_
  simp -implicitDefEqProofs only[go_sem,Tryz.f47]
  exact AR
instance Ak.l0.w:type_of% (AH.mk Ak.l0.ws):=⟨Ak.l0.ws⟩
def Ak (x:AF × Int × AC):Option (AC) :=
 Ak.l0 (x.2.1,x.2.2,x.1)>>=fun (o13:AC) =>
 some o13
instance Ak.w:AH Ak (fun x r=>Fn Tryz.prog 47 [.agg (AF.C x.1),.i64 x.2.1,.w x.2.2] (.w r)):=⟨by
 intro x r h
 rw[Ak] at h
 try dsimp only
 refine Fn.of_lc mix ABi ALG (by rfl) (flC (AF.flatC _) (flC (.atom _) (flC (.atom _) (flN)))) (.atom _) ?_
 simp -implicitDefEqProofs only[go_sem,Tryz.f47]
 exact AR⟩
end
section
@[go_sem] theorem AO6:lrp Tryz.prog 82 1=(9,[]):=by kernel_rfl
theorem AMJ:okF Tryz.f82=true:=by kernel_rfl
end
section
@[go_sem] theorem AOt:lrp Tryz.prog 83 7=(50,[]):=by kernel_rfl
theorem AMF:okF Tryz.f83=true:=by kernel_rfl
def Ab.l1 (x:Int × Int × AF):Option (Lp (Unit) (Int × Int)) :=
 if(decide (x.2.1<(x.2.2.Ops.length:Int)))=true then
  if(x.1 != x.2.1)=true then
   (AU x.2.2.Ops x.1)>>=fun (e4:AI) =>
   (AU x.2.2.Ops x.2.1)>>=fun (e6:AI) =>
   if(e4.Home == e6.Home)=true then
    if(e6.Kind == 2)=true then
     FI e4>>=fun r10 =>
     if r10=true then
      Bo (e4.Left,e6.Own)>>=fun r13 =>
      if r13=true then
       some (.ret (x.1,x.2.1))
      else
       Ab.l1 (x.1,(w64 (x.2.1+1)),x.2.2)
     else
      Ab.l1 (x.1,(w64 (x.2.1+1)),x.2.2)
    else
     Ab.l1 (x.1,(w64 (x.2.1+1)),x.2.2)
   else
    Ab.l1 (x.1,(w64 (x.2.1+1)),x.2.2)
  else
   Ab.l1 (x.1,(w64 (x.2.1+1)),x.2.2)
 else
  some (.brk ())
 partial_fixpoint
theorem Ab.l1.ws:PC Ab.l1 (fun x o=>∀ lo c (Q:EP) (hb:∀ s:Unit,o=Lp.brk s→Q (.exit 2) ⟨[(1,.lref 1 0),(4,.v (.i64 x.1))],[(1,[.v (.slice .foreign (x.2.2.Joins.map AQ.av)),.v (.slice .foreign (x.2.2.Ops.map AI.av))])]⟩) (hr:∀ (r:Int × Int) (L:AO),o=.ret r→DV Tryz.prog [.tmp 2,.tmp 3] (.tuple [.i64 r.1,.i64 r.2]) (fun _=>True) .ret L→Q .ret L),AK Tryz.prog 83 lo c 1 (VQ Q) ⟨[(1,.lref 1 0),(4,.v (.i64 x.1)),(5,.v (.i64 x.2.1))],[(1,[.v (.slice .foreign (x.2.2.Joins.map AQ.av)),.v (.slice .foreign (x.2.2.Ops.map AI.av))])]⟩):=by
 refine Ab.l1.partial_correctness _ ?_
 ·intro QP Pw x o h
  have AEj:AH QP _:=⟨Pw⟩
  intro lo c Q hb hr
  refine AK.step mix AB3 (by kernel_rfl) ?_
  simp -implicitDefEqProofs only[go_sem,Tryz.f83]
  exact AR
instance Ab.l1.w:type_of% (AH.mk Ab.l1.ws):=⟨Ab.l1.ws⟩
def Ab.l0 (x:Int × AF):Option (Lp (Unit) (Int × Int)) :=
 if(decide (x.1<(x.2.Ops.length:Int)))=true then
  Ab.l1 (x.1,0,x.2)>>=fun (o16:Lp (Unit) (Int × Int))=>match o16 with
  | .brk s19 =>
   Ab.l0 ((w64 (x.1+1)),x.2)
  | .ret r18 =>
   some (.ret r18)
 else
  some (.brk ())
 partial_fixpoint
theorem Ab.l0.ws:PC Ab.l0 (fun x o=>∀ lo c (Q:EP) (hb:∀ s:Unit,o=Lp.brk s→Q (.exit 0) ⟨[],[]⟩) (hr:∀ (r:Int × Int) (L:AO),o=.ret r→DV Tryz.prog [.tmp 2,.tmp 3] (.tuple [.i64 r.1,.i64 r.2]) (fun _=>True) .ret L→Q .ret L),AK Tryz.prog 83 lo c 0 (VQ Q) ⟨[(1,.lref 1 0),(4,.v (.i64 x.1))],[(1,[.v (.slice .foreign (x.2.Joins.map AQ.av)),.v (.slice .foreign (x.2.Ops.map AI.av))])]⟩):=by
 refine Ab.l0.partial_correctness _ ?_
 ·intro Qx Pv x o h
  have AD7:AH Qx _:=⟨Pv⟩
  intro lo c Q hb hr
  refine AK.step mix AB3 (by kernel_rfl) ?_
  simp -implicitDefEqProofs only[go_sem,Tryz.f83]
  exact AR
instance Ab.l0.w:type_of% (AH.mk Ab.l0.ws):=⟨Ab.l0.ws⟩
def Ab (x:AF):Option (Int × Int) :=
 Ab.l0 (0,x)>>=fun (o20:Lp (Unit) (Int × Int))=>match o20 with
 | .brk s23 =>
  some (-1, -1)
 | .ret r22 =>
  some r22
instance Ab.w:AH Ab (fun x r=>Fn Tryz.prog 83 [.agg (AF.C x)] (.tuple [.i64 r.1,.i64 r.2])):=⟨by
 intro x r h
 rw[Ab] at h
 try dsimp only
 refine Fn.of_lc mix AB3 AMF (by rfl) (flC (AF.flatC _) (flN)) (.tuple _ (flC (.atom _) (flC (.atom _) (flN)))) ?_
 simp -implicitDefEqProofs only[go_sem,Tryz.f83]
 exact AR⟩
end
section
@[go_sem] theorem APU:lrp Tryz.prog 45 9=(18,[]):=by kernel_rfl
theorem ALC:okF Tryz.f45=true:=by kernel_rfl
section
attribute [local instance] QI
def Ej (x:AF):Option (AF) :=
 (room 152 ([]:List AQ) x.Joins)>>=fun (z1:List AQ) =>
 (room 64 ([]:List AI) x.Ops)>>=fun (z3:List AI) =>
 some (⟨z1,z3⟩:AF)
instance Ej.w:AH Ej (fun x r=>FnR Tryz.prog 82 [] [.a (.agg (AF.C x))] (.ag [.v (.slice .foreign (r.Joins.map AQ.av)),.own 98000001 6 (r.Ops.map AI.av)]) []):=⟨by
 intro x r h
 rw[Ej] at h
 try dsimp only
 refine FnR.of_lcG mix ANs AMJ (by rfl) (by rfl) (by rfl) (by rfl) fun c=>?_
 simp -implicitDefEqProofs only[go_sem,Tryz.f82]
 obtain⟨z1,h2,h⟩:=AE h;replace h2:=KM h2;obtain⟨h2',rfl⟩:=h2
 refine HI.mapFull (F:=AQ.av) (xs:=([]:List AQ)) (ys:=x.Joins) AAd AAV XG XH rfl AQ.len AM AM h2' ?_
 try simp -implicitDefEqProofs only[go_sem]
 obtain⟨z3,h4,h⟩:=AE h;replace h4:=KM h4;obtain⟨h4',rfl⟩:=h4
 refine HI.mapFull (F:=AI.av) (xs:=([]:List AI)) (ys:=x.Ops) AAR XP Va Ui rfl AI.len AM AM h4' ?_
 try simp -implicitDefEqProofs only[go_sem]
 injection h with h;subst h
 first | exact⟨_,rfl,[(98000001,some 90000010)],by rfl,AM,AM⟩ | exact⟨_,rfl,[(98000001,some 90000010)],by rfl,by(simp -implicitDefEqProofs only[go_sem] <;> first | done | rfl | trivial),by(simp -implicitDefEqProofs only[go_sem] <;> first | done | rfl | trivial)⟩⟩
end
section
attribute [local instance] QI
def Bg.l0 (x:Int × AF × AF × AF):Option (Lp (AF × AF) (AF)) :=
 if(decide (x.1≤(w64 ((x.2.1.Ops.length:Int) * (x.2.1.Ops.length:Int)))))=true then
  Ab x.2.2.2>>=fun r4 =>
  if(decide (r4.1<0))=true then
   some (.ret x.2.2.2)
  else
   (AU x.2.2.2.Ops r4.1)>>=fun (e7:AI) =>
   (AU (x.2.2.2.Ops.set (r4.1).toNat (⟨e7.Kind,e7.Conj,e7.Left,e7.Right,e7.Own,r4.2⟩:AI)) r4.2)>>=fun (e9:AI) =>
   (AU (x.2.2.2.Ops.set (r4.1).toNat (⟨e7.Kind,e7.Conj,e7.Left,e7.Right,e7.Own,r4.2⟩:AI)) r4.1)>>=fun (e11:AI) =>
   Bg.l0 ((w64 (x.1+1)),x.2.1,x.2.2.1,(⟨x.2.2.2.Joins,((x.2.2.2.Ops.set (r4.1).toNat (⟨e7.Kind,e7.Conj,e7.Left,e7.Right,e7.Own,r4.2⟩:AI)).set (r4.2).toNat (⟨e9.Kind,e9.Conj,e9.Left,e9.Right,(e9.Own|||e11.Own),e9.Home⟩:AI))⟩:AF))
 else
  some (.brk (x.2.2.1,x.2.2.2))
 partial_fixpoint
theorem Bg.l0.ws:PC Bg.l0 (fun x o=>∀ lo c (Q:EP) (hb:∀ s:AF × AF,o=Lp.brk s→Q (.exit 0) ⟨[(2,.lref 2 0),(3,.lref 3 0)],[(2,[.own 20000200 17 (s.1.Joins.map AQ.av),.own 70000201 6 (s.1.Ops.map AI.av)]),(3,[.v (.slice .foreign (s.2.Joins.map AQ.av)),.own 110000301 6 (s.2.Ops.map AI.av)])]⟩) (hr:∀ (r:AF) (L:AO),o=.ret r→DV Tryz.prog [.cell 2 92] (.agg (AF.C r)) (fun _=>True) .ret L→Q .ret L),AK Tryz.prog 45 lo c 0 (VQ Q) ⟨[(1,.lref 1 0),(2,.lref 2 0),(3,.lref 3 0),(4,.v (.i64 x.1))],[(1,[.v (.slice .foreign (x.2.1.Joins.map AQ.av)),.v (.slice .foreign (x.2.1.Ops.map AI.av))]),(2,[.own 20000200 17 (x.2.2.1.Joins.map AQ.av),.own 70000201 6 (x.2.2.1.Ops.map AI.av)]),(3,[.v (.slice .foreign (x.2.2.2.Joins.map AQ.av)),.own 110000301 6 (x.2.2.2.Ops.map AI.av)])]⟩):=by
 refine Bg.l0.partial_correctness _ ?_
 ·intro AFz Qs x o h
  intro lo c Q hb hr
  refine AK.step mix AHw (by kernel_rfl) ?_
  simp -implicitDefEqProofs only[go_sem,Tryz.f45]
  revert h;refine itE (fun h3 h=>?_) fun h3 h=>?_
  ·try simp -implicitDefEqProofs only[go_sem, *, -h]
   obtain⟨r4,h5,h⟩:=AE h
   have hw:=Ab.w.w x.2.2.2 _ h5
   try simp -implicitDefEqProofs only[go_sem] at hw
   refine⟨_,hw,by first | exact(flC (AF.flatC _) (flN)) | (simp -implicitDefEqProofs only[go_sem];exact(flC (AF.flatC _) (flN))),(.tuple _ (scC (.atom _) (scC (.atom _) (scN)))),?_⟩
   clear hw
   try simp -implicitDefEqProofs only[go_sem, *, -h]
   revert h;refine itE (fun h6 h=>?_) fun h6 h=>?_
   ·try simp -implicitDefEqProofs only[go_sem, *, -h]
    injection h with h;subst h
    exact .inl (hr _ _ rfl AM)
   ·try simp -implicitDefEqProofs only[go_sem, *, -h]
    obtain⟨e7,h8,h⟩:=AE h;replace h8:=Dz h8;obtain⟨h8',h8⟩:=h8;have h8v:r4.1<(x.2.2.2.Ops.length:Int):=by have:=(List.getElem?_eq_some_iff.1 h8).1;omega
    try simp -implicitDefEqProofs only[go_sem, *, -h]
    refine QE.map (F:=AI.av) (xs:=x.2.2.2.Ops) (x:=e7) (x':=(⟨e7.Kind,e7.Conj,e7.Left,e7.Right,e7.Own,r4.2⟩:AI)) AM AM (by rfl) (by rfl) (by rfl) h8 (by first | rfl | (first | rfl | simp -implicitDefEqProofs only[go_sem, *] <;> rfl)) ?_
    try simp -implicitDefEqProofs only[go_sem, *, -h]
    obtain⟨e9,h10,h⟩:=AE h;replace h10:=Dz h10;obtain⟨h10',h10⟩:=h10;have h10v:r4.2<((x.2.2.2.Ops.set (r4.1).toNat (⟨e7.Kind,e7.Conj,e7.Left,e7.Right,e7.Own,r4.2⟩:AI)).length:Int):=by have:=(List.getElem?_eq_some_iff.1 h10).1;omega
    try simp -implicitDefEqProofs only[go_sem, *, -h]
    obtain⟨e11,h12,h⟩:=AE h;replace h12:=Dz h12;obtain⟨h12',h12⟩:=h12;have h12v:r4.1<((x.2.2.2.Ops.set (r4.1).toNat (⟨e7.Kind,e7.Conj,e7.Left,e7.Right,e7.Own,r4.2⟩:AI)).length:Int):=by have:=(List.getElem?_eq_some_iff.1 h12).1;omega
    try simp -implicitDefEqProofs only[go_sem, *, -h]
    refine QE.map (F:=AI.av) (xs:=(x.2.2.2.Ops.set (r4.1).toNat (⟨e7.Kind,e7.Conj,e7.Left,e7.Right,e7.Own,r4.2⟩:AI))) (x:=e9) (x':=(⟨e9.Kind,e9.Conj,e9.Left,e9.Right,(e9.Own|||e11.Own),e9.Home⟩:AI)) AM AM (by rfl) (by rfl) (by rfl) h10 (by first | rfl | (first | rfl | simp -implicitDefEqProofs only[go_sem, *] <;> rfl)) ?_
    try simp -implicitDefEqProofs only[go_sem, *, -h]
    exact AK.view [(20000200,some 20000200),(70000201,some 70000201),(110000301,some 110000301)] AM (Qs _ _ h lo c Q hb hr)
  ·try simp -implicitDefEqProofs only[go_sem, *, -h]
   injection h with h;subst h
   exact .inr ⟨[(20000200,some 20000200),(70000201,some 70000201),(110000301,some 110000301)],_,by(simp -implicitDefEqProofs only[go_sem, *] <;> first | done | rfl | trivial),hb _ rfl⟩
instance Bg.l0.w:type_of% (AH.mk Bg.l0.ws):=⟨Bg.l0.ws⟩
end
section
attribute [local instance] QI
def Bg (x:AF):Option (AF) :=
 Ej x>>=fun r1 =>
 Bg.l0 (0,x,(⟨[],[]⟩:AF),r1)>>=fun (o13:Lp (AF × AF) (AF))=>match o13 with
 | .brk s16 =>
  some s16.2
 | .ret r15 =>
  some r15
instance Bg.w:AH Bg (fun x r=>Fn Tryz.prog 45 [.agg (AF.C x)] (.agg (AF.C r))):=⟨by
 intro x r h
 rw[Bg] at h
 try dsimp only
 refine Fn.of_lc mix AHw ALC (by rfl) (flC (AF.flatC _) (flN)) (AF.flatC _) ?_
 simp -implicitDefEqProofs only[go_sem,Tryz.f45]
 obtain⟨r1,h2,h⟩:=AE h
 have hw:=Ej.w.w x _ h2
 try simp -implicitDefEqProofs only[go_sem] at hw
 refine .res [] [] [] [] _ _ hw AM (by rfl) (by rfl) (by rfl) (by rfl) AM (by rfl) AM AM ?_
 clear hw
 try simp -implicitDefEqProofs only[go_sem]
 obtain⟨o13,h14,h⟩:=AE h
 refine AK.viewQ (AK.view [(20000200,none),(70000201,none),(110000301,some 98000001)] AM (Bg.l0.w.w (0,x,(⟨[],[]⟩:AF),r1) _ h14 _ _ _ ?_ ?_))
 ·intro s16 hs';subst hs'
  try simp -implicitDefEqProofs only[go_sem]
  injection h with h;subst h
  first | rfl | simp -implicitDefEqProofs only[go_sem] <;> rfl
 ·intro r15 L' hs' hL';subst hs'
  injection h with h;subst h
  first | exact hL' | (simp -implicitDefEqProofs only[go_sem];exact hL') | (simp -implicitDefEqProofs only[go_sem];simp -implicitDefEqProofs only[go_sem] at hL';exact hL')⟩
end
end
section
theorem AMZ:okF Tryz.f12=true:=by kernel_rfl
def Ar.l0 (x:List AD × Int × AF):Option (List AD) :=
 if(decide (x.2.1<(x.2.2.Joins.length:Int)))=true then
  (AU x.2.2.Joins x.2.1)>>=fun (e6:AQ) =>
  Ak (x.2.2,e6.Home,e6.Left)>>=fun r8 =>
  Ak (x.2.2,e6.Home,e6.Right)>>=fun r10 =>
  (room 56 x.1 ([(⟨1,[e6.Pred],(e6.Left|||e6.Right),r8,r10⟩:AD)]))>>=fun (z12:List AD) =>
  Ar.l0 (z12,(w64 (x.2.1+1)),x.2.2)
 else
  some x.1
 partial_fixpoint
theorem Ar.l0.ws:PC Ar.l0 (fun x o=>∀ lo c (Q:EP) (hb:∀ s:List AD,o=s→Q (.exit 0) ⟨[(3,.lref 3 0),(4,.own 100400 5 (s.map AD.av))],[(3,[.v (.slice .foreign (x.2.2.Joins.map AQ.av)),.v (.slice .foreign (x.2.2.Ops.map AI.av))])]⟩),AK Tryz.prog 12 lo c 0 (VQ Q) ⟨[(3,.lref 3 0),(4,.own 100400 5 (x.1.map AD.av)),(5,.v (.i64 x.2.1))],[(3,[.v (.slice .foreign (x.2.2.Joins.map AQ.av)),.v (.slice .foreign (x.2.2.Ops.map AI.av))])]⟩):=by
 refine Ar.l0.partial_correctness _ ?_
 ·intro Uw TF x o h
  have AHh:AH Uw _:=⟨TF⟩
  intro lo c Q hb
  refine AK.step mix ACW (by kernel_rfl) ?_
  simp -implicitDefEqProofs only[go_sem,Tryz.f12]
  exact AR
instance Ar.l0.w:type_of% (AH.mk Ar.l0.ws):=⟨Ar.l0.ws⟩
def Ar.l1 (x:List AD × Int × AF):Option (List AD) :=
 if(decide (x.2.1<(x.2.2.Ops.length:Int)))=true then
  (AU x.2.2.Ops x.2.1)>>=fun (e17:AI) =>
  Ak (x.2.2,e17.Home,e17.Left)>>=fun r19 =>
  CB (x.2.2,x.2.1)>>=fun r21 =>
  (room 56 x.1 ([(⟨e17.Kind,e17.Conj,(e17.Left|||e17.Right),r19,r21⟩:AD)]))>>=fun (z23:List AD) =>
  Ar.l1 (z23,(w64 (x.2.1+1)),x.2.2)
 else
  some x.1
 partial_fixpoint
theorem Ar.l1.ws:PC Ar.l1 (fun x o=>∀ lo c (Q:EP) (hb:∀ s:List AD,o=s→Q (.exit 2) ⟨[(4,.own 100400 5 (s.map AD.av))],[]⟩),AK Tryz.prog 12 lo c 1 (VQ Q) ⟨[(3,.lref 3 0),(4,.own 100400 5 (x.1.map AD.av)),(8,.v (.i64 x.2.1))],[(3,[.v (.slice .foreign (x.2.2.Joins.map AQ.av)),.v (.slice .foreign (x.2.2.Ops.map AI.av))])]⟩):=by
 refine Ar.l1.partial_correctness _ ?_
 ·intro UI TO x o h
  have AHa:AH UI _:=⟨TO⟩
  intro lo c Q hb
  refine AK.step mix ACW (by kernel_rfl) ?_
  simp -implicitDefEqProofs only[go_sem,Tryz.f12]
  exact AR
instance Ar.l1.w:type_of% (AH.mk Ar.l1.ws):=⟨Ar.l1.ws⟩
def Ar (x:AA):Option (List AD) :=
 AP x>>=fun r1 =>
 Bg r1>>=fun r3 =>
 Ar.l0 (([]:List AD),0,r3)>>=fun (o14:List AD) =>
 Ar.l1 (o14,0,r3)>>=fun (o25:List AD) =>
 some o25
instance Ar.w:AH Ar (fun x r=>Fn Tryz.prog 12 [.agg (AA.C x)] (.slice .foreign (r.map AD.av))):=⟨by
 intro x r h
 rw[Ar] at h
 try dsimp only
 refine Fn.of_lc mix ACW AMZ (by rfl) (flC (AA.flatC _) (flN)) (AT _ AD.flat _) ?_
 simp -implicitDefEqProofs only[go_sem,Tryz.f12]
 exact AR⟩
end
section
structure WF (g:AF) (d:Nat→Nat) (bd:Nat):Prop where
 jl:g.Joins.length≤100000
 ol:g.Ops.length≤1000
 bound:∀ i,i<g.Ops.length→d i≤bd
 home:∀ i (h:i<g.Ops.length),(g.Ops[i].Home = -1∧d i=0)∨∃ p:Nat,g.Ops[i].Home=(p:Int)∧p<g.Ops.length∧d i=d p+1
 conj:∀ o∈g.Ops,o.Conj.length≤1000000∧∀ p∈o.Conj,p.size≤1000000
 jp:∀ j∈g.Joins,j.Pred.size≤1000000
theorem FB {α:Type} (pre:List α) (x:α) (post:List α):AU (pre++x :: post) (pre.length:Int)=some x:=by
 rw[Ai (by rw[List.length_append,List.length_cons];omega)]
 congr 1
 rw[List.getElem_append_right (by omega)]
 simp
theorem CX {α:Type} (pre:List α) (x:α):(pre++[x]).length=pre.length+1:=by rw[List.length_append];rfl
theorem AJ5 (n:Int):∀ (post pre:List Int),pre.length+post.length≤100000000→CP.l0 (pre++post,n,(pre.length:Int))=some (if n∈post then .ret true else .brk ()):=by
 intro post
 induction post with
 | nil=>intro pre _;rw[List.append_nil,CP.l0,if_neg (dge (by dsimp only;omega))];rfl
 | cons x post ih =>
  intro pre hl
  simp only[List.length_cons] at hl
  have hlen:(pre++x :: post).length=pre.length+(post.length+1):=by rw[List.length_append];rfl
  have h0:=ih (pre++[x]) (by rw[CX];omega)
  rw[CX,List.append_assoc] at h0
  rw[CP.l0,if_pos (dlt (by dsimp only;omega))]
  dsimp only
  rw[FB]
  simp -implicitDefEqProofs only[Option.bind_eq_bind,Option.bind_some]
  by_cases hx:x=n
  ·subst hx;rw[if_pos (by simp),if_pos List.mem_cons_self]
  ·rw[if_neg (by simpa using hx),Aa (by omega)]
   refine h0.trans ?_
   congr 1
   by_cases hm:n∈post
   ·rw[if_pos hm,if_pos (List.mem_cons_of_mem _ hm)]
   ·rw[if_neg hm,if_neg (fun h=>by rcases List.mem_cons.1 h with h | h;exact hx h.symm;exact hm h)]
theorem ADg (l:List Int) (n:Int) (hl:l.length≤100000000):CP (l,n)=some (decide (n∈l)):=by
 have h0:=AJ5 n l [] (by simpa using hl)
 simp only[List.nil_append,List.length_nil] at h0
 rw[show ((0:Nat):Int)=0 from rfl] at h0
 unfold CP
 dsimp only
 rw[h0]
 by_cases h:n∈l
 ·rw[if_pos h,decide_eq_true h];rfl
 ·rw[if_neg h,decide_eq_false h];rfl
def Kr (g:AF) (l:List Int):Prop:=∀ e∈l,∃ n:Nat,e=(n:Int)∧n<g.Ops.length
section
variable {g:AF} {d:Nat→Nat} {bd:Nat}
theorem UH (w:WF g d bd) (o:AI) (ho:o∈g.Ops):∃ b,FI o=some b:=by
 unfold FI
 exact CM (DT (Qq o.Conj (w.conj o ho).1 (w.conj o ho).2 _) fun _=>⟨_,rfl⟩) ⟨_,rfl⟩
theorem AAu (w:WF g d bd) (home:Int):∀ (n:Nat) (i:Int),(∀ k:Nat,i=(k:Int)→k<g.Ops.length→d k<n)→∃ b,DK (g,i,home)=some b:=by
 intro n
 induction n with
 | zero =>
  intro i hi
  rw[DK]
  dsimp only
  by_cases h1:i<0
  ·rw[if_pos (decide_eq_true h1)];exact⟨_,rfl⟩
  ·rw[if_neg (by simpa using h1)]
   by_cases h2:i ≥ (g.Ops.length:Int)
   ·rw[if_pos (decide_eq_true h2)];exact⟨_,rfl⟩
   ·exact absurd (hi i.toNat (by omega) (by omega)) (by omega)
 | succ n ih =>
  intro i hi
  rw[DK]
  dsimp only
  by_cases h1:i<0
  ·rw[if_pos (decide_eq_true h1)];exact⟨_,rfl⟩
  ·rw[if_neg (by simpa using h1)]
   by_cases h2:i ≥ (g.Ops.length:Int)
   ·rw[if_pos (decide_eq_true h2)];exact⟨_,rfl⟩
   ·rw[if_neg (by simpa using h2)]
    obtain⟨k,rfl⟩:∃ k:Nat,i=(k:Int):=⟨i.toNat,by omega⟩
    have hk:k<g.Ops.length:=by omega
    rw[Ai hk]
    simp -implicitDefEqProofs only[Option.bind_eq_bind,Option.bind_some]
    refine CM ⟨_,rfl⟩ (DT (ih _ fun p hp hpl=>?_) fun _=>⟨_,rfl⟩)
    have hdk:=hi k rfl hk
    rcases w.home k hk with⟨h3,_⟩|⟨q,h3,h4,h5⟩
    ·rw[h3] at hp;omega
    ·rw[h3] at hp
     have:q=p:=by omega
     subst this
     omega
theorem AFI (w:WF g d bd) (i k:Nat) (hi:i<g.Ops.length) (hk:k<g.Ops.length) (hand sm:List Int) (hv:Kr g hand) (h1:hand.length≤10000000) (h2:sm.length≤10000000):∃ b,An (g,(i:Int),(k:Int),hand,sm)=some b:=by
 have jl:=w.jl
 have k0:∀ (own:AC) n j,g.Joins.length - j=n→j≤g.Joins.length→∃ o,An.l0 ((i:Int),(k:Int),hand,sm,own,(j:Int),g)=some o:=by
  intro own n
  induction n with
  | zero=>intro j h3 h4;rw[An.l0,if_neg (dge (by dsimp only;omega))];exact⟨_,rfl⟩
  | succ n ih =>
   intro j h3 h4
   rw[An.l0,if_pos (dlt (by dsimp only;omega))]
   dsimp only
   rw[Ai (show j<g.Joins.length by omega),Aa (by omega)]
   simp -implicitDefEqProofs only[Option.bind_eq_bind,Option.bind_some]
   exact CM (CM ⟨_,rfl⟩ (CM ⟨_,rfl⟩ (ih (j+1) (by omega) (by omega)))) (ih (j+1) (by omega) (by omega))
 have k1:∀ (own:AC) (post pre:List Int),hand=pre++post→∃ o,An.l1 ((k:Int),hand,sm,own,(pre.length:Int),g)=some o:=by
  intro own post
  induction post with
  | nil=>intro pre h;rw[List.append_nil] at h;subst h;rw[An.l1,if_neg (dge (by dsimp only;omega))];exact⟨_,rfl⟩
  | cons x post ih =>
   intro pre h
   have hlen:hand.length=pre.length+(post.length+1):=by rw[h,List.length_append];rfl
   have h0:=ih (pre++[x]) (by rw[h,List.append_assoc];rfl)
   rw[CX] at h0
   obtain⟨n,rfl,hn⟩:=hv x (by rw[h];simp)
   rw[An.l1,if_pos (dlt (by dsimp only;omega))]
   dsimp only
   have gx:AU hand (pre.length:Int)=some (n:Int):=by rw[h];exact FB _ _ _
   rw[gx,Aa (by omega)]
   simp -implicitDefEqProofs only[Option.bind_eq_bind,Option.bind_some]
   rw[ADg _ _ (by omega),Ai hn]
   simp -implicitDefEqProofs only[Option.bind_some]
   exact CM (CM h0 (CM ⟨_,rfl⟩ h0)) h0
 unfold An
 dsimp only
 rw[Ai hk,Ai hi]
 simp -implicitDefEqProofs only[Option.bind_eq_bind,Option.bind_some]
 refine CM ⟨_,rfl⟩ (CM ⟨_,rfl⟩ ?_)
 have e0:=k0 g.Ops[k].Own g.Joins.length 0 (by omega) (by omega)
 have e1:=k1 g.Ops[k].Own hand [] rfl
 rw[show ((0:Nat):Int)=0 from rfl] at e0
 rw[show (([]:List Int).length:Int)=0 from rfl] at e1
 obtain⟨a,ha⟩:=e0
 rw[ha]
 simp -implicitDefEqProofs only[Option.bind_some]
 cases a with
 | ret r=>exact⟨_,rfl⟩
 | brk s =>
  dsimp only
  obtain⟨b,hb⟩:=e1
  rw[hb]
  simp -implicitDefEqProofs only[Option.bind_some]
  cases b <;> exact⟨_,rfl⟩
def pick (n:Nat) (p:Nat→Bool):List Int:=((List.range n).filter p).map fun (k:Nat)=>(k:Int)
theorem Yp (n:Nat) (p:Nat→Bool):(pick n p).length≤n:=by
 unfold pick
 rw[List.length_map]
 exact Nat.le_trans (List.length_filter_le _ _) (by simp)
theorem AF6 (n:Nat) (p:Nat→Bool) (k:Nat):(k:Int)∈pick n p ↔ k<n∧p k=true:=by
 unfold pick
 rw[List.mem_map]
 constructor
 ·rintro⟨j,hj,he⟩
  have:j=k:=by omega
  subst this
  rw[List.mem_filter,List.mem_range] at hj
  exact hj
 ·rintro⟨h1,h2⟩
  exact⟨k,List.mem_filter.2 ⟨List.mem_range.2 h1,h2⟩,rfl⟩
theorem ACf (p:Nat→Bool):Kr g (pick g.Ops.length p):=by
 intro e he
 unfold pick at he
 obtain⟨j,hj,rfl⟩:=List.mem_map.1 he
 rw[List.mem_filter,List.mem_range] at hj
 exact⟨j,rfl,hj.1⟩
theorem ABN (w:WF g d bd) (i:Nat) (hi:i<g.Ops.length) (hand sm:List Int) (hv:Kr g hand) (h1:hand.length≤10000000) (h2:sm.length≤10000000) :
  ∃ p:Nat→Bool,AY.l2 ((i:Int),hand,sm,([]:List Int),0,g)=some (pick g.Ops.length p)∧∀ k,p k=true→(k:Int)∈sm:=by
 have ol:=w.ol
 let p:Nat→Bool:=fun k=>decide ((k:Int)∈sm)&&(An (g,(i:Int),(k:Int),hand,sm)).getD false
 have key:∀ n j (acc:List Int),g.Ops.length - j=n→j≤g.Ops.length→acc.length≤j→AY.l2 ((i:Int),hand,sm,acc,(j:Int),g)=some (acc++((List.range' j n).filter p).map fun (k:Nat)=>(k:Int)):=by
  intro n
  induction n with
  | zero=>intro j acc h3 h4 h5;rw[AY.l2,if_neg (dge (by dsimp only;omega))];simp
  | succ n ih =>
   intro j acc h3 h4 h5
   have hj:j<g.Ops.length:=by omega
   obtain⟨b,hb⟩:=AFI w i j hi hj hand sm hv h1 h2
   rw[AY.l2,if_pos (dlt (by dsimp only;omega))]
   dsimp only
   rw[ADg _ _ (by omega),hb,Aa (by omega)]
   simp -implicitDefEqProofs only[Option.bind_eq_bind,Option.bind_some]
   rw[List.range'_succ,List.filter_cons]
   have hpj:p j=(decide ((j:Int)∈sm)&&b):=by show (_&&(An _).getD false)=_;rw[hb];rfl
   rw[hpj]
   by_cases hm:(j:Int)∈sm
   ·rw[if_pos (decide_eq_true hm),decide_eq_true hm,Bool.true_and]
    cases b with
    | true =>
     rw[if_pos rfl,if_pos rfl,Bt (by simp only[List.length_cons,List.length_nil];omega)]
     simp -implicitDefEqProofs only[Option.bind_some]
     rw[ih (j+1) _ (by omega) (by omega) (by rw[CX];omega),List.append_assoc];rfl
    | false=>rw[if_neg (by simp),if_neg (by simp)];exact ih (j+1) acc (by omega) (by omega) (by omega)
   ·rw[if_neg (by simpa using hm),decide_eq_false hm,Bool.false_and,if_neg (by simp)];exact ih (j+1) acc (by omega) (by omega) (by omega)
 refine⟨p,?_,fun k hk=>?_⟩
 ·have h0:=key g.Ops.length 0 [] (by omega) (by omega) (by simp)
  rw[show ((0:Nat):Int)=0 from rfl,List.nil_append] at h0
  rw[h0]
  unfold pick
  rw[List.range_eq_range']
 ·have:(decide ((k:Int)∈sm)&&(An (g,(i:Int),(k:Int),hand,sm)).getD false)=true:=hk
  rw[Bool.and_eq_true] at this
  exact of_decide_eq_true this.1
theorem AIw (w:WF g d bd) (i:Nat) (hi:i<g.Ops.length) (hand:List Int) (hv:Kr g hand) (h1:hand.length≤10000000):∀ (n:Nat) (p:Nat→Bool),(pick g.Ops.length p).length=n→∃ q,AY.l1 ((i:Int),hand,pick g.Ops.length p,g)=some (pick g.Ops.length q):=by
 have ol:=w.ol
 intro n
 induction n using Nat.strongRecOn with
 | _ n ih =>
  intro p hp
  have hpl:=Yp g.Ops.length p
  obtain⟨q,hq,hsub⟩:=ABN w i hi hand (pick g.Ops.length p) hv h1 (by omega)
  rw[AY.l1]
  dsimp only
  rw[hq]
  simp -implicitDefEqProofs only[Option.bind_eq_bind,Option.bind_some]
  by_cases he:(pick g.Ops.length q).length=(pick g.Ops.length p).length
  ·rw[if_pos (by simp[he])];exact⟨q,rfl⟩
  ·rw[if_neg (by simp;omega)]
   have hle:(pick g.Ops.length q).length≤(pick g.Ops.length p).length:=by
    unfold pick
    rw[List.length_map,List.length_map,← List.countP_eq_length_filter,← List.countP_eq_length_filter]
    exact List.countP_mono_left fun k hk hqk=>((AF6 _ _ _).1 (hsub k hqk)).2
   exact ih _ (by omega) q rfl
theorem AEy (w:WF g d bd):∀ (n:Nat) (i:Int),(∀ k:Nat,i=(k:Int)→k<g.Ops.length→bd - d k≤n)→∃ out,AY (g,i)=some out∧Kr g out∧out.length≤g.Ops.length:=by
 have ol:=w.ol
 have nilV:Kr g []:=fun e he=>by cases he
 have head:∀ (i:Int) (rec:∀ k j:Nat,i=(k:Int)→k<g.Ops.length→∀ hj:j<g.Ops.length,g.Ops[j].Home=(k:Int)→∃ out,AY (g,(j:Int))=some out∧Kr g out∧out.length≤g.Ops.length),∃ out,AY (g,i)=some out∧Kr g out∧out.length≤g.Ops.length:=by
  intro i rec
  rw[AY]
  dsimp only
  by_cases h1:i<0
  ·rw[if_pos (decide_eq_true h1)];exact⟨[],rfl,nilV,by simp⟩
  rw[if_neg (by simpa using h1)]
  by_cases h2:i ≥ (g.Ops.length:Int)
  ·rw[if_pos (decide_eq_true h2)];exact⟨[],rfl,nilV,by simp⟩
  rw[if_neg (by simpa using h2)]
  obtain⟨k,rfl⟩:∃ k:Nat,i=(k:Int):=⟨i.toNat,by omega⟩
  have hk:k<g.Ops.length:=by omega
  rw[Ai hk]
  simp -implicitDefEqProofs only[Option.bind_eq_bind,Option.bind_some]
  by_cases h3:g.Ops[k].Kind=2
  ·rw[if_neg (by simp[h3])]
   have key:∀ n j (hand sm:List Int),g.Ops.length - j=n→j≤g.Ops.length→Kr g hand→hand.length≤j * 1001→sm.length≤j * 1001→∃ h s,AY.l0 ((k:Int),hand,sm,(j:Int),g)=some (h,s)∧Kr g h∧h.length≤1001000∧s.length≤1001000:=by
    intro n
    induction n with
    | zero=>intro j hand sm h4 h5 h6 h7 h8;rw[AY.l0,if_neg (dge (by dsimp only;omega))];exact⟨_,_,rfl,h6,by dsimp only;omega,by dsimp only;omega⟩
    | succ n ih =>
     intro j hand sm h4 h5 h6 h7 h8
     have hj:j<g.Ops.length:=by omega
     rw[AY.l0,if_pos (dlt (by dsimp only;omega))]
     dsimp only
     rw[Ai hj,Aa (by omega)]
     simp -implicitDefEqProofs only[Option.bind_eq_bind,Option.bind_some]
     by_cases hh:g.Ops[j].Home=(k:Int)
     ·rw[if_neg (by simp[hh])]
      obtain⟨more,hm,hmv,hml⟩:=rec k j rfl hk hj hh
      rw[hm]
      simp -implicitDefEqProofs only[Option.bind_some]
      rw[Bt (by simp only[List.length_cons,List.length_nil];omega)]
      simp -implicitDefEqProofs only[Option.bind_some]
      rw[Bt (by rw[CX];omega)]
      simp -implicitDefEqProofs only[Option.bind_some]
      rw[Bt (by omega)]
      simp -implicitDefEqProofs only[Option.bind_some]
      obtain⟨b,hb⟩:=UH w _ (List.getElem_mem hj)
      rw[hb]
      simp -implicitDefEqProofs only[Option.bind_some]
      have hv2:Kr g (hand++[(j:Int)]++more):=by
       intro e he
       rcases List.mem_append.1 he with he | he
       ·rcases List.mem_append.1 he with he | he
        ·exact h6 e he
        ·rw[List.mem_singleton] at he;exact⟨j,he,hj⟩
       ·exact hmv e he
      cases b with
      | true =>
       rw[if_pos rfl,Bt (by simp only[List.length_append,List.length_cons,List.length_nil];omega)]
       simp -implicitDefEqProofs only[Option.bind_some]
       exact ih (j+1) _ _ (by omega) (by omega) hv2 (by simp only[List.length_append,List.length_cons,List.length_nil];omega) (by simp only[List.length_append,List.length_cons,List.length_nil];omega)
      | false =>
       rw[if_neg (by simp)]
       exact ih (j+1) _ _ (by omega) (by omega) hv2 (by simp only[List.length_append,List.length_cons,List.length_nil];omega) (by simp only[List.length_append];omega)
     ·rw[if_pos (by simpa using hh)];exact ih (j+1) _ _ (by omega) (by omega) h6 (Nat.le_trans h7 (Nat.mul_le_mul_right _ (Nat.le_succ j))) (Nat.le_trans h8 (Nat.mul_le_mul_right _ (Nat.le_succ j)))
   obtain⟨h,s,e0,hv,hhl,hsl⟩:=key g.Ops.length 0 [] [] (by omega) (by omega) nilV (show ([]:List Int).length≤0 * 1001 from Nat.zero_le (0 * 1001)) (show ([]:List Int).length≤0 * 1001 from Nat.zero_le (0 * 1001))
   rw[show ((0:Nat):Int)=0 from rfl] at e0
   rw[e0]
   simp -implicitDefEqProofs only[Option.bind_some]
   obtain⟨p,hp,_⟩:=ABN w k hk h s hv (by omega) (by omega)
   have hfin:∃ q,AY.l1 ((k:Int),h,s,g)=some (pick g.Ops.length q):=by
    rw[AY.l1]
    dsimp only
    rw[hp]
    simp -implicitDefEqProofs only[Option.bind_eq_bind,Option.bind_some]
    by_cases he:(pick g.Ops.length p).length=s.length
    ·rw[if_pos (by simp[he])];exact⟨p,rfl⟩
    ·rw[if_neg (by simp;omega)];exact AIw w k hk h hv (by omega) _ p rfl
   obtain⟨q,hq⟩:=hfin
   rw[hq]
   exact⟨_,rfl,ACf q,Yp _ _⟩
  ·rw[if_pos (by simpa using h3)];exact⟨[],rfl,nilV,by simp⟩
 intro n
 induction n with
 | zero =>
  intro i hi
  refine head i fun k j hk hkl hj hh=>?_
  have h1:=hi k hk hkl
  have h2:=w.bound j hj
  rcases w.home j hj with⟨h3,_⟩|⟨p,h3,h4,h5⟩
  ·rw[h3] at hh;omega
  ·have:p=k:=by omega
   subst this
   omega
 | succ n ih =>
  intro i hi
  refine head i fun k j hk hkl hj hh=>ih _ fun z hz hzl=>?_
  have h1:=hi k hk hkl
  have hzj:z=j:=by omega
  subst hzj
  have h2:=w.bound z hj
  rcases w.home z hj with⟨h3,_⟩|⟨p,h3,h4,h5⟩
  ·rw[h3] at hh;omega
  ·have:p=k:=by omega
   subst this
   omega
end
end
section
open Classical
theorem Xa {g:AF} {d:Nat→Nat} {bd:Nat} (w:WF g d bd) (i:Int):∃ s,CB (g,i)=some s:=by
 have ol:=w.ol
 unfold CB
 dsimp only
 by_cases h1:i<0
 ·rw[if_pos (decide_eq_true h1)];exact⟨_,rfl⟩
 rw[if_neg (by simpa using h1)]
 by_cases h2:i ≥ (g.Ops.length:Int)
 ·rw[if_pos (decide_eq_true h2)];exact⟨_,rfl⟩
 rw[if_neg (by simpa using h2)]
 obtain⟨k,rfl⟩:∃ k:Nat,i=(k:Int):=⟨i.toNat,by omega⟩
 have hk:k<g.Ops.length:=by omega
 obtain⟨out,ho,hv,hl⟩:=AEy w bd (k:Int) (fun _ _ _=>by omega)
 rw[Ai hk,ho]
 simp -implicitDefEqProofs only[Option.bind_eq_bind,Option.bind_some]
 have key:∀ (post pre:List Int) (s:AC),out=pre++post→∃ o,CB.l0 (s,out,(pre.length:Int),g)=some o:=by
  intro post
  induction post with
  | nil=>intro pre s h;rw[List.append_nil] at h;subst h;rw[CB.l0,if_neg (dge (by dsimp only;omega))];exact⟨_,rfl⟩
  | cons x post ih =>
   intro pre s h
   have hlen:out.length=pre.length+(post.length+1):=by rw[h,List.length_append];rfl
   obtain⟨n,rfl,hn⟩:=hv x (by rw[h];simp)
   have gx:AU out (pre.length:Int)=some (n:Int):=by rw[h];exact FB _ _ _
   rw[CB.l0,if_pos (dlt (by dsimp only;omega))]
   dsimp only
   rw[gx,Aa (by omega)]
   simp -implicitDefEqProofs only[Option.bind_eq_bind,Option.bind_some]
   rw[Ai hn]
   simp -implicitDefEqProofs only[Option.bind_some]
   have h0:=ih (pre++[(n:Int)]) (s&&&~~~g.Ops[n].Own) (by rw[h,List.append_assoc];rfl)
   rw[CX] at h0
   exact h0
 have h0:=key out [] g.Ops[k].Own rfl
 rw[show (([]:List Int).length:Int)=0 from rfl] at h0
 obtain⟨o,h0⟩:=h0
 rw[h0];exact⟨_,rfl⟩
theorem AIY {a b:AC} (h:∀ n,Ad a n=Ad b n):a=b:=by
 apply BitVec.eq_of_getLsbD_eq
 intro i hi
 rw[← DW a i hi,← DW b i hi,h]
theorem QU {g:AF} {d:Nat→Nat} {bd:Nat} (w:WF g d bd) (home:Int) (s:AC):∃ r,Ak (g,home,s)=some r:=by
 have ol:=w.ol
 have l1:∀ n j (s was:AC),g.Ops.length - j=n→j≤g.Ops.length→∃ o,Ak.l1 (home,s,was,(j:Int),g)=some o∧∀ z,Ad s z=true→Ad o z=true:=by
  intro n
  induction n with
  | zero=>intro j s was h1 h2;rw[Ak.l1,if_neg (dge (by dsimp only;omega))];exact⟨_,rfl,fun _ h=>h⟩
  | succ n ih =>
   intro j s was h1 h2
   have hj:j<g.Ops.length:=by omega
   obtain⟨b,hb⟩:=AAu w home (bd+1) (j:Int) (fun k hk hkl=>by have:=w.bound k hkl;omega)
   rw[Ak.l1,if_pos (dlt (by dsimp only;omega))]
   dsimp only
   rw[hb,Aa (by omega)]
   simp -implicitDefEqProofs only[Option.bind_eq_bind,Option.bind_some]
   by_cases hbb:b=true
   ·rw[if_pos hbb,Ai hj]
    simp -implicitDefEqProofs only[Option.bind_some]
    by_cases hc:((g.Ops[j].Own&&&s) != 0#64)=true
    ·rw[if_pos hc]
     obtain⟨c,hcore⟩:=Xa w (j:Int)
     rw[hcore]
     simp -implicitDefEqProofs only[Option.bind_some]
     obtain⟨o,h3,h4⟩:=ih (j+1) ((s|||c)|||g.Ops[j].Left) was (by omega) (by omega)
     exact⟨o,h3,fun z hz=>h4 z (by rw[WU,WU,hz];rfl)⟩
    ·rw[if_neg hc];exact ih (j+1) s was (by omega) (by omega)
   ·rw[if_neg hbb];exact ih (j+1) s was (by omega) (by omega)
 have cle:∀ s,cnt s≤64:=fun s=>by
  unfold cnt
  exact Nat.le_trans List.countP_le_length (by simp)
 have l0:∀ n (s:AC),64 - cnt s=n→∃ r,Ak.l0 (home,s,g)=some r:=by
  intro n
  induction n using Nat.strongRecOn with
  | _ n ih =>
   intro s hn
   obtain⟨o,h1,h2⟩:=l1 g.Ops.length 0 s s (by omega) (by omega)
   rw[show ((0:Nat):Int)=0 from rfl] at h1
   rw[Ak.l0]
   dsimp only
   rw[h1]
   simp -implicitDefEqProofs only[Option.bind_eq_bind,Option.bind_some]
   by_cases he:o=s
   ·rw[if_pos (by simp[he])];exact⟨_,rfl⟩
   ·rw[if_neg (by simpa using he)]
    have hlt:cnt s<cnt o:=AEk h2 (Classical.byContradiction fun hno=>he (AIY fun z=>by
     cases h3:Ad o z with
     | true =>
      cases h4:Ad s z with
      | true=>rfl
      | false=>exact absurd ⟨z,h3,by rw[h4];simp⟩ hno
     | false =>
      cases h4:Ad s z with
      | true=>have:=h2 z h4;rw[h3] at this;cases this
      | false=>rfl))
    have:=cle o
    exact ih (64 - cnt o) (by omega) o rfl
 obtain⟨r,hr⟩:=l0 _ s rfl
 unfold Ak
 dsimp only
 rw[hr];exact⟨_,rfl⟩
def Yh (g:AF) (r:Int × Int):Prop:=∃ i k:Nat,r=((i:Int),(k:Int))∧i≠k∧∃ (hi:i<g.Ops.length) (hk:k<g.Ops.length),g.Ops[i].Home=g.Ops[k].Home
theorem AC4 {g:AF} {d:Nat→Nat} {bd:Nat} (w:WF g d bd):∃ r,Ab g=some r∧(r.1<0∨Yh g r):=by
 have ol:=w.ol
 have l1:∀ (i:Nat) (hi:i<g.Ops.length) n k,g.Ops.length - k=n→k≤g.Ops.length→Ab.l1 ((i:Int),(k:Int),g)=some (.brk ())∨∃ r,Ab.l1 ((i:Int),(k:Int),g)=some (.ret r)∧Yh g r:=by
  intro i hi n
  induction n with
  | zero=>intro k h1 h2;left;rw[Ab.l1,if_neg (dge (by dsimp only;omega))]
  | succ n ih =>
   intro k h1 h2
   have hk:k<g.Ops.length:=by omega
   have h0:=ih (k+1) (by omega) (by omega)
   obtain⟨b,hb⟩:=UH w _ (List.getElem_mem hi)
   rw[Ab.l1,if_pos (dlt (by dsimp only;omega))]
   dsimp only
   rw[Aa (by omega)]
   by_cases hne:(i:Int)=(k:Int)
   ·rw[if_neg (by simp[hne])];exact h0
   ·rw[if_pos (by simpa using hne),Ai hi,Ai hk]
    simp -implicitDefEqProofs only[Option.bind_eq_bind,Option.bind_some]
    by_cases hh:g.Ops[i].Home=g.Ops[k].Home
    ·rw[if_pos (by simp[hh])]
     by_cases hkd:g.Ops[k].Kind=2
     ·rw[if_pos (by simp[hkd]),hb]
      simp -implicitDefEqProofs only[Option.bind_some]
      by_cases hbb:b=true
      ·rw[if_pos hbb,Jl]
       simp -implicitDefEqProofs only[Option.bind_some]
       by_cases hin:inS g.Ops[i].Left g.Ops[k].Own=true
       ·rw[if_pos hin]
        exact .inr ⟨_,rfl,i,k,rfl,by omega,hi,hk,hh⟩
       ·rw[if_neg hin];exact h0
      ·rw[if_neg hbb];exact h0
     ·rw[if_neg (by simpa using hkd)];exact h0
    ·rw[if_neg (by simpa using hh)];exact h0
 have l0:∀ n i,g.Ops.length - i=n→i≤g.Ops.length→Ab.l0 ((i:Int),g)=some (.brk ())∨∃ r,Ab.l0 ((i:Int),g)=some (.ret r)∧Yh g r:=by
  intro n
  induction n with
  | zero=>intro i h1 h2;left;rw[Ab.l0,if_neg (dge (by dsimp only;omega))]
  | succ n ih =>
   intro i h1 h2
   have hi:i<g.Ops.length:=by omega
   rw[Ab.l0,if_pos (dlt (by dsimp only;omega))]
   dsimp only
   have h0:=l1 i hi g.Ops.length 0 (by omega) (by omega)
   rw[show ((0:Nat):Int)=0 from rfl] at h0
   rcases h0 with h0 | ⟨r,h0,h3⟩
   ·rw[h0]
    simp -implicitDefEqProofs only[Option.bind_eq_bind,Option.bind_some]
    rw[Aa (by omega)]
    exact ih (i+1) (by omega) (by omega)
   ·rw[h0];exact .inr ⟨r,rfl,h3⟩
 have h0:=l0 g.Ops.length 0 (by omega) (by omega)
 rw[show ((0:Nat):Int)=0 from rfl] at h0
 unfold Ab
 rcases h0 with h0 | ⟨r,h0,h3⟩
 ·rw[h0];exact⟨_,rfl,.inl (by decide)⟩
 ·rw[h0];exact⟨r,rfl,.inr h3⟩
inductive BelowG (g:AF) (i:Nat):Nat→Prop
 | self:BelowG g i i
 | step {z p:Nat} (hz:z<g.Ops.length) (h:g.Ops[z].Home=(p:Int)) (hp:BelowG g i p):BelowG g i z
theorem BelowG.depth {g:AF} {d:Nat→Nat} {bd:Nat} (w:WF g d bd) {i z:Nat} (h:BelowG g i z):d i≤d z:=by
 induction h with
 | self=>exact Nat.le_refl _
 | step hz h hp ih =>
  rcases w.home _ hz with⟨h1,_⟩|⟨q,h1,_,h3⟩
  ·rw[h1] at h;omega
  ·rw[h1] at h
   have e:q=_:=Int.ofNat.inj h
   subst e
   omega
theorem WF.sink {g g':AF} {d:Nat→Nat} {bd:Nat} (w:WF g d bd) {i k:Nat} (hi:i<g.Ops.length) (hk:k<g.Ops.length) (hne:i≠k) (hh:g.Ops[i].Home=g.Ops[k].Home) (hj:g'.Joins=g.Joins) (hl:g'.Ops.length=g.Ops.length)
  (hhome:∀ z (h:z<g.Ops.length) (h':z<g'.Ops.length),g'.Ops[z].Home=if z=i then(k:Int) else g.Ops[z].Home) (hconj:∀ o∈g'.Ops,o.Conj.length≤1000000∧∀ p∈o.Conj,p.size≤1000000):∃ d',WF g' d' (bd+1):=by
 have same:d i=d k:=by
  rcases w.home i hi with⟨h1,h2⟩|⟨p,h1,_,h2⟩
  ·rcases w.home k hk with⟨h3,h4⟩|⟨q,h3,_,h4⟩
   ·omega
   ·rw[h1,h3] at hh;omega
  ·rcases w.home k hk with⟨h3,h4⟩|⟨q,h3,_,h4⟩
   ·rw[h1,h3] at hh;omega
   ·rw[h1,h3] at hh
    have e:p=q:=Int.ofNat.inj hh
    subst e
    omega
 have nk:¬ BelowG g i k:=by
  intro h
  cases h with
  | self=>exact hne rfl
  | step hz h hp =>
   have h1:=hp.depth w
   rcases w.home k hk with⟨h3,h4⟩|⟨q,h3,_,h4⟩
   ·rw[h3] at h;omega
   ·rw[h3] at h
    have e:q=_:=Int.ofNat.inj h
    subst e
    omega
 refine⟨fun z=>if BelowG g i z then d z+1 else d z,⟨by rw[hj];exact w.jl,by rw[hl];exact w.ol,fun z hz=>?_,fun z hz=>?_,hconj,by rw[hj];exact w.jp⟩⟩
 ·have:=w.bound z (by omega)
  split <;> omega
 ·have hz':z<g.Ops.length:=by omega
  rw[hhome z hz' hz]
  by_cases hzi:z=i
  ·subst hzi
   rw[if_pos rfl]
   exact .inr ⟨k,rfl,by omega,by rw[if_pos BelowG.self,if_neg nk];omega⟩
  ·rw[if_neg hzi]
   rcases w.home z hz' with⟨h1,h2⟩|⟨p,h1,h2,h3⟩
   ·refine .inl ⟨h1,?_⟩
    have:¬ BelowG g i z:=by
     intro h
     cases h with
     | self=>exact hzi rfl
     | step _ h _=>rw[h1] at h;omega
    rw[if_neg this];exact h2
   ·refine .inr ⟨p,h1,by omega,?_⟩
    have iff:BelowG g i z ↔ BelowG g i p:=by
     constructor
     ·intro h
      cases h with
      | self=>exact absurd rfl hzi
      | step _ h hp =>
       rw[h1] at h
       have e:p=_:=Int.ofNat.inj h
       subst e
       exact hp
     ·intro h;exact .step hz' h1 h
    by_cases hb:BelowG g i p
    ·rw[if_pos (iff.2 hb),if_pos hb];omega
    ·rw[if_neg (fun h=>hb (iff.1 h)),if_neg hb];exact h3
def wtC (l:List AB):Nat:=(l.map AB.size).sum
def wtG (g:AF):Nat:=(g.Joins.map fun j=>j.Pred.size).sum+(g.Ops.map fun o=>wtC o.Conj).sum
theorem QG {α β:Type} (f:α→β) (l:List α) (i:Nat) (x:α) (h:i<l.length) (e:f x=f l[i]):(l.set i x).map f=l.map f:=by
 rw[List.map_set,e]
 apply List.ext_getElem?
 intro j
 rw[List.getElem?_set]
 split
 ·rename_i hj;subst hj
  simp[h]
 ·rfl
theorem AID (x z:AF) (hx:x.Ops.length≤1000):∀ (n i:Nat),x.Ops.length * x.Ops.length+1 - i=n→∀ (g:AF) (d:Nat→Nat) (bd:Nat),WF g d bd→g.Ops.length=x.Ops.length→∃ r,Bg.l0 ((i:Int),x,z,g)=some r∧∃ g' d' bd',(r=.brk (z,g')∨r=.ret g')∧WF g' d' bd'∧g'.Ops.length=g.Ops.length∧g'.Joins.length=g.Joins.length∧wtG g'=wtG g:=by
 have hmul:x.Ops.length * x.Ops.length≤1000000:=Nat.mul_le_mul hx hx
 have hw:w64 ((x.Ops.length:Int) * (x.Ops.length:Int))=((x.Ops.length * x.Ops.length:Nat):Int):=by
  rw[← Int.natCast_mul]
  exact Gx (by omega) (by omega)
 intro n
 induction n with
 | zero =>
  intro i h1 g d bd w hl
  rw[Bg.l0,if_neg (by dsimp only;rw[hw];simp only[decide_eq_true_eq];omega)]
  exact⟨_,rfl,g,d,bd,.inl rfl,w,rfl,rfl,rfl⟩
 | succ n ih =>
  intro i h1 g d bd w hl
  rw[Bg.l0,if_pos (by dsimp only;rw[hw];simp only[decide_eq_true_eq];omega)]
  dsimp only
  obtain⟨r,hr,hcase⟩:=AC4 w
  rw[hr]
  simp -implicitDefEqProofs only[Option.bind_eq_bind,Option.bind_some]
  rcases hcase with h2 | ⟨a,k,rfl,hne,ha,hk,hh⟩
  ·rw[if_pos (decide_eq_true h2)];exact⟨_,rfl,g,d,bd,.inr rfl,w,rfl,rfl,rfl⟩
  ·rw[if_neg (by simp only[decide_eq_true_eq];omega)]
   dsimp only
   rw[Ai ha]
   simp -implicitDefEqProofs only[Option.bind_some]
   rw[Int.toNat_natCast,Int.toNat_natCast]
   generalize hO:(⟨g.Ops[a].Kind,g.Ops[a].Conj,g.Ops[a].Left,g.Ops[a].Right,g.Ops[a].Own,(k:Int)⟩:AI)=o1
   have hset:(g.Ops.set a o1).length=g.Ops.length:=List.length_set
   have gk:AU (g.Ops.set a o1) (k:Int)=some g.Ops[k]:=by
    rw[Ai (by omega)]
    congr 1
    rw[List.getElem_set_ne hne]
   have ga:AU (g.Ops.set a o1) (a:Int)=some o1:=by
    rw[Ai (by omega)]
    congr 1
    rw[List.getElem_set_self]
   rw[gk]
   simp -implicitDefEqProofs only[Option.bind_some]
   rw[ga]
   simp -implicitDefEqProofs only[Option.bind_some]
   rw[Aa (by omega)]
   have hsink:=w.sink (g':=⟨g.Joins,(g.Ops.set a o1).set k ⟨g.Ops[k].Kind,g.Ops[k].Conj,g.Ops[k].Left,g.Ops[k].Right,g.Ops[k].Own|||o1.Own,g.Ops[k].Home⟩⟩) ha hk hne hh rfl (by simp) (fun z h h'=>by
    dsimp only
    by_cases hz:z=a
    ·subst hz
     rw[if_pos rfl,List.getElem_set_ne (fun e=>hne e.symm),List.getElem_set_self,← hO]
    ·rw[if_neg hz]
     by_cases hzk:z=k
     ·subst hzk;rw[List.getElem_set_self]
     ·rw[List.getElem_set_ne (fun e=>hzk e.symm),List.getElem_set_ne (fun e=>hz e.symm)]) (fun o ho=>by
    have hc:=w.conj
    rcases List.mem_or_eq_of_mem_set ho with h | h
    ·rcases List.mem_or_eq_of_mem_set h with h | h
     ·exact hc o h
     ·rw[h,← hO];exact hc g.Ops[a] (List.getElem_mem ha)
    ·rw[h];exact hc g.Ops[k] (List.getElem_mem hk))
   obtain⟨d',w'⟩:=hsink
   obtain⟨r,h5,g'',d'',bd'',h6,h7,h8,h9,h10⟩:=ih (i+1) (by omega) _ d' _ w' (by simp;omega)
   refine⟨r,h5,g'',d'',bd'',h6,h7,by rw[h8];simp,h9,?_⟩
   rw[h10]
   unfold wtG
   dsimp only
   rw[QG (fun o=>wtC o.Conj) (g.Ops.set a o1) k _ (by omega) (by rw[List.getElem_set_ne hne]),QG (fun o=>wtC o.Conj) g.Ops a o1 ha (by rw[← hO])]
theorem ADt {g:AF} {d:Nat→Nat} {bd:Nat} (w:WF g d bd):∃ g' d' bd',Bg g=some g'∧WF g' d' bd'∧g'.Ops.length=g.Ops.length∧g'.Joins.length=g.Joins.length∧wtG g'=wtG g:=by
 have ol:=w.ol
 have jl:=w.jl
 unfold Bg Ej
 rw[Bt (by simp;omega),Bt (by simp;omega)]
 simp -implicitDefEqProofs only[Option.bind_eq_bind,Option.bind_some,List.nil_append]
 obtain⟨r,h1,g',d',bd',h2,h3,h4,h5,h6⟩:=AID g ⟨[],[]⟩ ol _ 0 rfl ⟨g.Joins,g.Ops⟩ d bd w rfl
 rw[show ((0:Nat):Int)=0 from rfl] at h1
 rw[h1]
 simp -implicitDefEqProofs only[Option.bind_some]
 rcases h2 with rfl | rfl
 ·exact⟨g',d',bd',rfl,h3,h4,h5,h6⟩
 ·exact⟨g',d',bd',rfl,h3,h4,h5,h6⟩
theorem ADA {t:AA} {g:AF} {d:Nat→Nat} {bd:Nat} (h:AP t=some g) (w:WF g d bd):∃ es,Ar t=some es∧es.length≤101000∧(∀ e∈es,e.Preds.length≤1000000∧∀ p∈e.Preds,p.size≤1000000)∧(es.map fun e=>wtC e.Preds).sum=wtG g:=by
 obtain⟨g',d',bd',h1,w',h2,h3,h4⟩:=ADt w
 rw[← h4]
 clear h4
 have ol:=w'.ol
 have jl:=w'.jl
 unfold Ar
 rw[h]
 simp -implicitDefEqProofs only[Option.bind_eq_bind,Option.bind_some]
 rw[h1]
 simp -implicitDefEqProofs only[Option.bind_some]
 have k0:∀ n j (acc:List AD),g'.Joins.length - j=n→j≤g'.Joins.length→acc.length≤j→(∀ e∈acc,e.Preds.length≤1000000∧∀ p∈e.Preds,p.size≤1000000)→∃ o,Ar.l0 (acc,(j:Int),g')=some o∧o.length≤g'.Joins.length∧(∀ e∈o,e.Preds.length≤1000000∧∀ p∈e.Preds,p.size≤1000000)∧(o.map fun e=>wtC e.Preds).sum=(acc.map fun e=>wtC e.Preds).sum+((g'.Joins.drop j).map fun j=>j.Pred.size).sum:=by
  intro n
  induction n with
  | zero=>intro j acc h4 h5 h6 h7;rw[Ar.l0,if_neg (dge (by dsimp only;omega))];exact⟨_,rfl,by dsimp only;omega,h7,by rw[List.drop_eq_nil_of_le (by omega)];simp⟩
  | succ n ih =>
   intro j acc h4 h5 h6 h7
   have hj:j<g'.Joins.length:=by omega
   rw[Ar.l0,if_pos (dlt (by dsimp only;omega))]
   dsimp only
   obtain⟨a,ha⟩:=QU w' g'.Joins[j].Home g'.Joins[j].Left
   obtain⟨b,hb⟩:=QU w' g'.Joins[j].Home g'.Joins[j].Right
   rw[Ai hj]
   simp -implicitDefEqProofs only[Option.bind_eq_bind,Option.bind_some]
   rw[ha,hb]
   simp -implicitDefEqProofs only[Option.bind_some]
   rw[Bt (by simp only[List.length_cons,List.length_nil];omega),Aa (by omega)]
   simp -implicitDefEqProofs only[Option.bind_some]
   have hacc:∀ e∈acc++[(⟨1,[g'.Joins[j].Pred],g'.Joins[j].Left|||g'.Joins[j].Right,a,b⟩:AD)],e.Preds.length≤1000000∧∀ p∈e.Preds,p.size≤1000000:=by
    intro e he
    rcases List.mem_append.1 he with he | he
    ·exact h7 e he
    ·rw[List.mem_singleton] at he
     subst he
     refine⟨by simp,fun p hp=>?_⟩
     rw[List.mem_singleton] at hp
     subst hp
     exact w'.jp _ (List.getElem_mem hj)
   obtain⟨o,q1,q2,q3,q4⟩:=ih (j+1) (acc++[(⟨1,[g'.Joins[j].Pred],g'.Joins[j].Left|||g'.Joins[j].Right,a,b⟩:AD)]) (by omega) (by omega) (by rw[CX];omega) hacc
   refine⟨o,q1,q2,q3,?_⟩
   rw[q4,List.drop_eq_getElem_cons hj]
   simp only[List.map_append,List.sum_append,List.map_cons,List.map_nil,List.sum_cons,List.sum_nil,wtC]
   try omega
 have k1:∀ n j (acc:List AD),g'.Ops.length - j=n→j≤g'.Ops.length→acc.length≤100000+j→(∀ e∈acc,e.Preds.length≤1000000∧∀ p∈e.Preds,p.size≤1000000)→∃ o,Ar.l1 (acc,(j:Int),g')=some o∧o.length≤101000∧(∀ e∈o,e.Preds.length≤1000000∧∀ p∈e.Preds,p.size≤1000000)∧(o.map fun e=>wtC e.Preds).sum=(acc.map fun e=>wtC e.Preds).sum+((g'.Ops.drop j).map fun o=>wtC o.Conj).sum:=by
  intro n
  induction n with
  | zero=>intro j acc h4 h5 h6 h7;rw[Ar.l1,if_neg (dge (by dsimp only;omega))];exact⟨_,rfl,by dsimp only;omega,h7,by rw[List.drop_eq_nil_of_le (by omega)];simp⟩
  | succ n ih =>
   intro j acc h4 h5 h6 h7
   have hj:j<g'.Ops.length:=by omega
   rw[Ar.l1,if_pos (dlt (by dsimp only;omega))]
   dsimp only
   obtain⟨a,ha⟩:=QU w' g'.Ops[j].Home g'.Ops[j].Left
   obtain⟨b,hb⟩:=Xa w' (j:Int)
   rw[Ai hj]
   simp -implicitDefEqProofs only[Option.bind_eq_bind,Option.bind_some]
   rw[ha,hb]
   simp -implicitDefEqProofs only[Option.bind_some]
   rw[Bt (by simp only[List.length_cons,List.length_nil];omega),Aa (by omega)]
   simp -implicitDefEqProofs only[Option.bind_some]
   have hacc:∀ e∈acc++[(⟨g'.Ops[j].Kind,g'.Ops[j].Conj,g'.Ops[j].Left|||g'.Ops[j].Right,a,b⟩:AD)],e.Preds.length≤1000000∧∀ p∈e.Preds,p.size≤1000000:=by
    intro e he
    rcases List.mem_append.1 he with he | he
    ·exact h7 e he
    ·rw[List.mem_singleton] at he
     subst he
     exact w'.conj _ (List.getElem_mem hj)
   obtain⟨o,q1,q2,q3,q4⟩:=ih (j+1) (acc++[(⟨g'.Ops[j].Kind,g'.Ops[j].Conj,g'.Ops[j].Left|||g'.Ops[j].Right,a,b⟩:AD)]) (by omega) (by omega) (by rw[CX];omega) hacc
   refine⟨o,q1,q2,q3,?_⟩
   rw[q4,List.drop_eq_getElem_cons hj]
   simp only[List.map_append,List.sum_append,List.map_cons,List.map_nil,List.sum_cons,List.sum_nil]
   try omega
 obtain⟨o,e0,e1,e4,e5⟩:=k0 _ 0 [] rfl (by omega) (by simp) (fun e he=>by cases he)
 rw[show ((0:Nat):Int)=0 from rfl] at e0
 rw[e0]
 simp -implicitDefEqProofs only[Option.bind_some]
 obtain⟨o2,e2,e3,e6,e7⟩:=k1 _ 0 o rfl (by omega) (by omega) e4
 rw[show ((0:Nat):Int)=0 from rfl] at e2
 rw[e2]
 refine⟨_,rfl,e3,e6,?_⟩
 rw[e7,e5]
 simp only[List.map_nil,List.sum_nil,List.drop_zero,Nat.zero_add]
 rfl
end
section
structure Jw where
 Pred:AB
 Left:AC
 Right:AC
 Home:Int
structure GD where
 Kind:Int
 Conj:List AB
 Left:AC
 Right:AC
 Own:AC
 Home:Int
structure FW where
 Joins:List Jw
 Ops:List GD
def Wj (x:AA × Int):GD:=⟨x.1.Kind,x.1.Conj,Kh x.1.Conj&&&Nm x.1,Kh x.1.Conj&&&WP x.1,WP x.1,x.2⟩
def mkJ (x:AA × Int):List Jw:=x.1.Conj.map fun p=>⟨p,p.tabs&&&Nm x.1,p.tabs&&&WP x.1,x.2⟩
def FR (l:List (AA × Int)):List GD:=(l.filter fun x=>decide (1<x.1.Kind)).map Wj
def EH (l:List (AA × Int)):List Jw:=l.flatMap fun x=>if x.1.Kind=1 then mkJ x else []
theorem Nu (l l':List (AA × Int)):FR (l++l')=FR l++FR l':=by unfold FR;rw[List.filter_append,List.map_append]
theorem Xs (l l':List (AA × Int)):EH (l++l')=EH l++EH l':=by unfold EH;rw[List.flatMap_append]
theorem JP {cols:List Int} (t:AA):OkT cols t→∀ off home,(EU t off home).map Prod.fst=t.tour:=by
 induction t using AA.induct with
 | h t ih =>
  intro ok off home
  cases ok.self with
  | leaf hk hks=>rw[WA hks,AB0 hks];rfl
  | op a b hk1 hk2 hks =>
   rw[Vw hks,NL hks,List.map_append,List.map_append,ih a (by rw[hks];simp) (ok.kid (by rw[hks];simp)),ih b (by rw[hks];simp) (ok.kid (by rw[hks];simp))];rfl
theorem OW {cols:List Int} {t:AA} (ok:OkT cols t) (off:Nat) (home:Int):(FR (EU t off home)).length=CW t:=by
 unfold FR CW NB
 rw[List.length_map,← JP t ok off home,List.filter_map,List.length_map];rfl
theorem Uk {cols:List Int} {t:AA} (ok:OkT cols t) (off:Nat) (home:Int):(EH (EU t off home)).length≤ED t.tour:=by
 rw[← JP t ok off home]
 generalize EU t off home=l
 induction l with
 | nil=>simp[EH]
 | cons x l ih =>
  have:EH (x :: l)=(if x.1.Kind=1 then mkJ x else [])++EH l:=rfl
  rw[this,List.length_append,List.map_cons,PI]
  split
  ·unfold mkJ;rw[List.length_map];omega
  ·simp only[List.length_nil];omega
end
section
theorem Tp {α:Type} (pre:List α) (x:α) (post:List α):AU (pre++x :: post) (pre.length:Int)=some x:=by
 have h:pre.length<(pre++x :: post).length:=by rw[List.length_append,List.length_cons];omega
 rw[Ai h]
 congr 1
 rw[List.getElem_append_right (Nat.le_refl _)];simp
theorem AIq {α:Type} (pre:List α) (x y:α) (post:List α):(pre++x :: post).set pre.length y=pre++y :: post:=by
 rw[List.set_append_right _ _ (Nat.le_refl _)];simp
theorem Fv {α:Type} (pre:List α) (x:α):(pre++[x]).length=pre.length+1:=by rw[List.length_append];rfl
def Rs (t:AA):FW:=⟨EH (EU t 0 (-1)),FR (EU t 0 (-1))⟩
end
section
def ACP (owns:List AC) (S:AC) (home:Int):Prop :=
 (home = -1∧∀ k (h:k<owns.length),¬ inS S owns[k]=true) ∨
 (∃ j,∃ h:j<owns.length,home=(j:Int)∧inS S owns[j]=true∧∀ k (hk:k<owns.length),k≠j→inS S owns[k]=true→cnt owns[j]<cnt owns[k])
theorem AIf {all:List AA} {owns:List AC} {i:Int} {l r:AC} {g0 g:AF} {t:AA} {home:Int} (hlen:owns.length≤1000000) (hs:ACP owns (l|||r) home) :
  AP.l2 (all,owns,i,l,r, -1,0,g0,g,t)=some home:=by
 have key:∀ n k (cur:Int),owns.length - k=n→k≤owns.length→(cur = -1∨∃ c,∃ h:c<owns.length,c<k∧cur=(c:Int)∧inS (l|||r) owns[c]=true)→(∀ j:Nat,home=(j:Int)→j<k→cur=home) →
   AP.l2 (all,owns,i,l,r,cur,(k:Int),g0,g,t)=some home:=by
  intro n
  induction n with
  | zero =>
   intro k cur h1 h2 hc hj
   obtain rfl:k=owns.length:=by omega
   rw[AP.l2,if_neg (dge (by dsimp only;omega))]
   dsimp only
   rcases hs with⟨rfl,hn⟩|⟨j,hjl,rfl,_,_⟩
   ·rcases hc with rfl | ⟨c,hcl,_,_,hin⟩
    ·rfl
    ·exact absurd hin (hn c hcl)
   ·rw[hj j rfl hjl]
  | succ n ih =>
   intro k cur h1 h2
   have hk:k<owns.length:=by omega
   have hA:owns.length - (k+1)=n:=by omega
   have hB:k+1≤owns.length:=by omega
   have hC:k+1<9223372036854775808:=by omega
   have hk':(k:Int)<(owns.length:Int):=by omega
   intro hc hj
   rw[AP.l2,if_pos (dlt hk')]
   dsimp only
   rw[Ai hk,Aa hC]
   simp -implicitDefEqProofs only[Option.bind_eq_bind,Option.bind_some]
   rw[Jl]
   simp -implicitDefEqProofs only[Option.bind_some]
   by_cases hin:inS (l|||r) owns[k]=true
   ·rw[if_pos hin]
    have new:∀ hh:(∀ j:Nat,home=(j:Int)→j<k→False),AP.l2 (all,owns,i,l,r,(k:Int),((k+1:Nat):Int),g0,g,t)=some home:=by
     intro hh
     refine ih (k+1) (k:Int) hA hB (.inr ⟨k,hk,Nat.lt_succ_self k,rfl,hin⟩) fun j e hlt=>?_
     rcases Nat.lt_or_ge j k with h | h
     ·exact(hh j e h).elim
     ·have:j=k:=by omega
      rw[e,this]
    rcases hc with rfl | ⟨c,hcl,hck,rfl,hcin⟩
    ·rw[if_pos (by simp)]
     refine new fun j e h=>?_
     have:=hj j e h;omega
    ·rw[if_neg (by simp),Nz,Ai hcl]
     simp -implicitDefEqProofs only[Option.bind_some]
     rw[Nz]
     simp -implicitDefEqProofs only[Option.bind_some]
     by_cases hlt:cnt owns[k]<cnt owns[c]
     ·rw[if_pos (by simpa using hlt)]
      refine new fun j e h=>?_
      have h5:=hj j e h
      rcases hs with⟨e0,_⟩|⟨j',hjl,e',_,hmin⟩
      ·omega
      ·obtain rfl:j'=j:=by omega
       obtain rfl:c=j':=by omega
       have:=hmin k hk (by omega) hin
       omega
     ·rw[if_neg (by simpa using hlt)]
      refine ih (k+1) (c:Int) hA hB (.inr ⟨c,hcl,by omega,rfl,hcin⟩) fun j e h=>?_
      rcases Nat.lt_or_ge j k with h5 | h5
      ·exact hj j e h5
      ·obtain rfl:j=k:=by omega
       rcases hs with⟨e0,_⟩|⟨j',hjl,e',_,hmin⟩
       ·omega
       ·obtain rfl:j'=j:=by omega
        have:=hmin c hcl (by omega) hcin
        omega
   ·rw[if_neg hin]
    refine ih (k+1) cur hA hB ?_ fun j e h=>?_
    ·rcases hc with h | ⟨c,hcl,hck,e,hcin⟩
     ·exact .inl h
     ·exact .inr ⟨c,hcl,by omega,e,hcin⟩
    ·rcases Nat.lt_or_ge j k with h5 | h5
     ·exact hj j e h5
     ·obtain rfl:j=k:=by omega
      rcases hs with⟨e0,_⟩|⟨j',hjl,e',hin',hmin⟩
      ·omega
      ·obtain rfl:j'=j:=by omega
       exact absurd hin' hin
 have:=key owns.length 0 (-1) (by omega) (by omega) (.inl rfl) (fun j _ h=>by omega)
 exact this
theorem NO {t a b:AA} (h:t.Kids=[a,b]) (hk:1≤t.Kind) (n:Int):Ad (AX t) n=true ↔ Ad (AX a) n=true∨Ad (AX b) n=true:=by
 have:AX t=AX a|||AX b:=by
  unfold AX
  rw[NL h,Cy,Cy,HD [] (by omega)]
  have:Ag []=[]:=rfl
  rw[this,List.append_nil,Od]
 rw[this,WU,Bool.or_eq_true]
theorem AAe {cols:List Int} {l:List AA} (h:∀ y∈l,Vq cols y):∀ n∈Ag l,0≤n∧n<(cols.length:Int):=by
 intro n hn
 unfold Ag at hn
 obtain⟨y,hy,rfl⟩:=List.mem_map.1 hn
 obtain⟨hy,hk⟩:=List.mem_filter.1 hy
 cases h y hy with
 | leaf _ _ _ h0 h1=>exact⟨h0,h1⟩
 | op a b hk1=>simp only[beq_iff_eq] at hk;omega
theorem IF {cols:List Int} (hc:cols.length≤64) {t:AA} (ok:OkT cols t) (n:Int):Ad (AX t) n=true ↔ n∈Ag t.tour:=by
 unfold AX
 rw[AHC]
 constructor
 ·exact fun h=>h.2.2
 ·intro h
  have:=AAe ok n h
  exact⟨by omega,by omega,h⟩
theorem Mf {cols:List Int} (hc:cols.length≤64) (t:AA):OkT cols t→∃ n,Ad (AX t) n=true:=by
 induction t using AA.induct with
 | h t ih =>
  intro ok
  cases ok.self with
  | leaf hk hks =>
   refine⟨t.Table,(IF hc ok _).2 ?_⟩
   rw[AB0 hks,JE [] hk];exact List.mem_cons_self
  | op a b hk1 hk2 hks =>
   obtain⟨n,hn⟩:=ih a (by rw[hks];simp) (ok.kid (by rw[hks];simp))
   exact⟨n,(NO hks hk1 n).2 (.inl hn)⟩
theorem AEw {t a b:AA} (h:t.Kids=[a,b]) (hk:1≤t.Kind) (hnd:(Ag t.tour).Nodup):(Ag a.tour).Nodup∧(Ag b.tour).Nodup∧∀ n,n∈Ag a.tour→n∈Ag b.tour→False:=by
 rw[NL h,Cy,Cy,HD [] (by omega)] at hnd
 have e:Ag []=[]:=rfl
 rw[e,List.append_nil] at hnd
 obtain⟨h1,h2,h3⟩:=List.nodup_append.1 hnd
 exact⟨h1,h2,fun n ha hb=>h3 n ha n hb rfl⟩
def Dw (l:List AA):List AC:=(NB l).map WP
theorem GJ (l l':List AA):Dw (l++l')=Dw l++Dw l':=by unfold Dw;rw[ABA,List.map_append]
theorem Ey (t:AA):(Dw t.tour).length=CW t:=List.length_map _
theorem Uo {t a b:AA} (h:t.Kids=[a,b]):Dw [t]=if 1<t.Kind then [AX b] else []:=by
 unfold Dw NB
 by_cases e:1<t.Kind
 ·rw[List.filter_cons_of_pos (by simpa using e),if_pos e];simp[Rv h]
 ·rw[List.filter_cons_of_neg (by simpa using e),if_neg e];rfl
theorem UL {cols:List Int} (hc:cols.length≤64) (t:AA):OkT cols t→(Ag t.tour).Nodup→∀ s∈Dw t.tour,(∀ n,Ad s n=true→Ad (AX t) n=true)∧∃ n,Ad (AX t) n=true∧¬ Ad s n=true:=by
 induction t using AA.induct with
 | h t ih =>
  intro ok hnd s hs
  cases ok.self with
  | leaf hk hks =>
   rw[AB0 hks] at hs
   simp[Dw,NB,hk] at hs
  | op a b hk1 hk2 hks =>
   have oka:OkT cols a:=ok.kid (by rw[hks];simp)
   have okb:OkT cols b:=ok.kid (by rw[hks];simp)
   obtain⟨na,nb,hd⟩:=AEw hks hk1 hnd
   obtain⟨xa,hxa⟩:=Mf hc a oka
   obtain⟨xb,hxb⟩:=Mf hc b okb
   rw[NL hks,GJ,GJ,List.mem_append,List.mem_append] at hs
   rcases hs with (hs | hs) | hs
   ·obtain⟨h1,_⟩:=ih a (by rw[hks];simp) oka na s hs
    refine⟨fun n hn=>(NO hks hk1 n).2 (.inl (h1 n hn)),xb,(NO hks hk1 xb).2 (.inr hxb),fun hn=>hd xb ((IF hc oka _).1 (h1 xb hn)) ((IF hc okb _).1 hxb)⟩
   ·obtain⟨h1,_⟩:=ih b (by rw[hks];simp) okb nb s hs
    refine⟨fun n hn=>(NO hks hk1 n).2 (.inr (h1 n hn)),xa,(NO hks hk1 xa).2 (.inl hxa),fun hn=>hd xa ((IF hc oka _).1 hxa) ((IF hc okb _).1 (h1 xa hn))⟩
   ·rw[Uo hks] at hs
    split at hs
    ·have:s=AX b:=by simpa using hs
     subst this
     exact⟨fun n hn=>(NO hks hk1 n).2 (.inr hn),xa,(NO hks hk1 xa).2 (.inl hxa),fun hn=>hd xa ((IF hc oka _).1 hxa) ((IF hc okb _).1 hn)⟩
    ·cases hs
structure Zr (owns:List AC) (off n:Nat) (S:AC) (home:Int):Prop where
 at_:home = -1∨∃ j,∃ h:j<owns.length,home=(j:Int)∧(j<off∨off+n≤j)∧∀ m,Ad S m=true→Ad owns[j] m=true
 off_:∀ k (h:k<owns.length),(k<off∨off+n≤k)→(k:Int)≠home→(∀ m,Ad S m=true→¬ Ad owns[k] m=true) ∨
  ((∀ m,Ad S m=true→Ad owns[k] m=true)∧∃ j,∃ hj:j<owns.length,home=(j:Int)∧cnt owns[j]<cnt owns[k])
theorem Oz {α:Type} {l l' r:List α} {off:Nat} (h:l.drop off=l'++r) {k:Nat} (h1:off≤k) (h2:k<off+l'.length) (hk:k<l.length):l[k]∈l':=by
 have e:(l.drop off)[k - off]'(by rw[List.length_drop];omega)=l[k]:=by
  rw[List.getElem_drop]
  congr 1;omega
 rw[← e]
 have e2:(l.drop off)[k - off]'(by rw[List.length_drop];omega)=(l'++r)[k - off]'(by rw[List.length_append];omega):=by
  congr 1
 rw[e2,List.getElem_append_left (by omega)]
 exact List.getElem_mem _
theorem AGo {cols:List Int} (hc:cols.length≤64) (owns:List AC) (t:AA):OkT cols t→(Ag t.tour).Nodup→∀ (off:Nat) (home:Int) (rest:List AC),owns.drop off=Dw t.tour++rest→Zr owns off (CW t) (AX t) home →
  ∀ x∈EU t off home,x.1.Kind≠0→ACP owns (AX x.1) x.2:=by
 induction t using AA.induct with
 | h t ih =>
  intro ok hnd off home rest hdrop har
  cases hself:ok.self with
  | leaf hk hks =>
   rw[WA hks]
   intro x hx hk'
   have:x=(t,home):=by simpa using hx
   subst this
   exact absurd hk hk'
  | op a b hk1 hk2 hks =>
   have oka:OkT cols a:=ok.kid (by rw[hks];simp)
   have okb:OkT cols b:=ok.kid (by rw[hks];simp)
   obtain⟨na,nb,hd⟩:=AEw hks hk1 hnd
   have hdis:∀ n,Ad (AX a) n=true→Ad (AX b) n=true→False:=fun n h1 h2=>hd n ((IF hc oka _).1 h1) ((IF hc okb _).1 h2)
   obtain⟨xa,hxa⟩:=Mf hc a oka
   obtain⟨xb,hxb⟩:=Mf hc b okb
   obtain⟨xt,hxt⟩:=Mf hc t ok
   have ht:=NO hks hk1
   have hn1:(Dw [t]).length=if 1<t.Kind then 1 else 0:=by rw[Uo hks];split <;> rfl
   have hnt:CW t=CW a+CW b+(Dw [t]).length:=by
    rw[← Ey,← Ey,← Ey,NL hks,GJ,GJ,List.length_append,List.length_append]
   have hlen:off+CW t≤owns.length∨CW t=0:=by
    have:=congrArg List.length hdrop
    rw[List.length_drop,List.length_append,Ey] at this
    omega
   have dt:∀ k,off≤k→k<off+CW t→∀ hk:k<owns.length,owns[k]∈Dw t.tour:=fun k h1 h2 hk=>Oz hdrop h1 (by rw[Ey];exact h2) hk
   have dropa:owns.drop off=Dw a.tour++(Dw b.tour++(Dw [t]++rest)):=by
    rw[hdrop,NL hks,GJ,GJ,List.append_assoc,List.append_assoc]
   have dropb:owns.drop (off+CW a)=Dw b.tour++(Dw [t]++rest):=by
    rw[← List.drop_drop,dropa,← Ey a,List.drop_left]
   have drops:owns.drop (off+CW a+CW b)=Dw [t]++rest:=by
    rw[← List.drop_drop,dropb,← Ey b,List.drop_left]
   have da:∀ k,off≤k→k<off+CW a→∀ hk:k<owns.length,owns[k]∈Dw a.tour:=fun k h1 h2 hk=>Oz dropa h1 (by rw[Ey];exact h2) hk
   have db:∀ k,off+CW a≤k→k<off+CW a+CW b→∀ hk:k<owns.length,owns[k]∈Dw b.tour:=fun k h1 h2 hk=>Oz dropb h1 (by rw[Ey];exact h2) hk
   have ds:∀ k,off+CW a+CW b≤k→k<off+CW t→∀ hk:k<owns.length,owns[k]=AX b:=fun k h1 h2 hk=>by
    have:=Oz drops h1 (by omega) hk
    rw[Uo hks] at this
    split at this
    ·simpa using this
    ·cases this
   -- the part on the left
   have ara:Zr owns off (CW a) (AX a) home:=by
    refine⟨?_,fun k hk hout hne=>?_⟩
    ·rcases har.at_ with h | ⟨j,hj,e,ho,hin⟩
     ·exact .inl h
     ·exact .inr ⟨j,hj,e,by omega,fun m hm=>hin m ((ht m).2 (.inl hm))⟩
    ·by_cases hin:k<off∨off+CW t≤k
     ·rcases har.off_ k hk hin hne with h | ⟨h,h'⟩
      ·exact .inl fun m hm=>h m ((ht m).2 (.inl hm))
      ·exact .inr ⟨fun m hm=>h m ((ht m).2 (.inl hm)),h'⟩
     ·left
      intro m hm hko
      rcases Nat.lt_or_ge k (off+CW a+CW b) with h | h
      ·exact hdis m hm ((UL hc b okb nb _ (db k (by omega) h hk)).1 m hko)
      ·rw[ds k h (by omega) hk] at hko
       exact hdis m hm hko
   -- the part on the right
   have arb:Zr owns (off+CW a) (CW b) (AX b) (if 1<t.Kind then((off+CW a+CW b:Nat):Int) else home):=by
    by_cases e:1<t.Kind
    ·rw[if_pos e]
     rw[if_pos e] at hn1
     have hj:off+CW a+CW b<owns.length:=by omega
     have ej:=ds (off+CW a+CW b) (Nat.le_refl _) (by omega) hj
     refine⟨.inr ⟨off+CW a+CW b,hj,rfl,by omega,fun m hm=>by rw[ej];exact hm⟩,fun k hk hout hne=>?_⟩
     have hbig:(∀ m,Ad (AX t) m=true→Ad owns[k] m=true)→(∀ m,Ad (AX b) m=true→Ad owns[k] m=true)∧∃ j,∃ hj:j<owns.length,((off+CW a+CW b:Nat):Int)=(j:Int)∧cnt owns[j]<cnt owns[k]:=by
      intro h
      refine⟨fun m hm=>h m ((ht m).2 (.inr hm)),off+CW a+CW b,hj,rfl,?_⟩
      rw[ej]
      exact AEk (fun m hm=>h m ((ht m).2 (.inr hm))) ⟨xa,h xa ((ht xa).2 (.inl hxa)),fun hb=>hdis xa hxa hb⟩
     by_cases hin:k<off∨off+CW t≤k
     ·by_cases hh:(k:Int)=home
      ·rcases har.at_ with h | ⟨j,hj',e',ho,hin'⟩
       ·omega
       ·obtain rfl:j=k:=by omega
        exact .inr (hbig hin')
      ·rcases har.off_ k hk hin hh with h | ⟨h,h'⟩
       ·exact .inl fun m hm=>h m ((ht m).2 (.inr hm))
       ·exact .inr (hbig h)
     ·left
      intro m hm hko
      exact hdis m ((UL hc a oka na _ (da k (by omega) (by omega) hk)).1 m hko) hm
    ·rw[if_neg e]
     rw[if_neg e] at hn1
     refine⟨?_,fun k hk hout hne=>?_⟩
     ·rcases har.at_ with h | ⟨j,hj,e,ho,hin⟩
      ·exact .inl h
      ·exact .inr ⟨j,hj,e,by omega,fun m hm=>hin m ((ht m).2 (.inr hm))⟩
     ·by_cases hin:k<off∨off+CW t≤k
      ·rcases har.off_ k hk hin hne with h | ⟨h,h'⟩
       ·exact .inl fun m hm=>h m ((ht m).2 (.inr hm))
       ·exact .inr ⟨fun m hm=>h m ((ht m).2 (.inr hm)),h'⟩
      ·left
       intro m hm hko
       exact hdis m ((UL hc a oka na _ (da k (by omega) (by omega) hk)).1 m hko) hm
   rw[Vw hks]
   intro x hx hkx
   rw[List.mem_append,List.mem_append] at hx
   rcases hx with (hx | hx) | hx
   ·exact ih a (by rw[hks];simp) oka na off home _ dropa ara x hx hkx
   ·exact ih b (by rw[hks];simp) okb nb (off+CW a) _ _ dropb arb x hx hkx
   ·have:x=(t,home):=by simpa using hx
    subst this
    dsimp only
    have inr:∀ k (hk:k<owns.length),inS (AX t) owns[k]=true→(k<off∨off+CW t≤k):=by
     intro k hk hin
     rcases Nat.lt_or_ge k off with h | h
     ·exact .inl h
     rcases Nat.lt_or_ge k (off+CW t) with h' | h'
     ·obtain⟨_,m,hm,hm'⟩:=UL hc t ok hnd _ (dt k h h' hk)
      exact absurd ((Ri _ _).1 hin m hm) hm'
     ·exact .inr h'
    rcases har.at_ with rfl | ⟨j,hj,rfl,ho,hin⟩
    ·refine .inl ⟨rfl,fun k hk hin=>?_⟩
     rcases har.off_ k hk (inr k hk hin) (by omega) with h | ⟨_,j,hj,e,_⟩
     ·exact h xt hxt ((Ri _ _).1 hin xt hxt)
     ·omega
    ·refine .inr ⟨j,hj,rfl,(Ri _ _).2 hin,fun k hk hne hin'=>?_⟩
     rcases har.off_ k hk (inr k hk hin') (by omega) with h | ⟨_,j',hj',e,hlt⟩
     ·exact absurd ((Ri _ _).1 hin' xt hxt) (h xt hxt)
     ·obtain rfl:j=j':=by omega
      exact hlt
end
end Go.Proofs.YtjnnhjgjecgomaaGreat.G
