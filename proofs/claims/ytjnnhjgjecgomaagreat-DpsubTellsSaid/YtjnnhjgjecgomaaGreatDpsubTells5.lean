/-
Part 5 of the proof of DpsubTells: merged by mkclaim.py (a program of this repo) out of texts of wip/g and printed models.
-/
import Derived.Test.YtjnnhjgjecgomaaGreatDpsubTells4
set_option linter.unusedVariables false
set_option linter.unusedSimpArgs false
set_option maxRecDepth 100000
set_option maxHeartbeats 8000000
namespace Go.Proofs.YtjnnhjgjecgomaaGreat.G
section
theorem AKq:okF Tryz.f77=true:=by kernel_rfl
mutual
def CS.l0 (x:List AA × Int × AA):Option (List AA) :=
 if(decide (x.2.1<(x.2.2.Kids.length:Int)))=true then
  (AX x.2.2.Kids x.2.1)>>=fun (e2:AA) =>
  CS e2>>=fun r4 =>
  (room 72 x.1 r4)>>=fun (z6:List AA) =>
  CS.l0 (z6,(w64 (x.2.1+1)),x.2.2)
 else
  some x.1
 partial_fixpoint
def CS (x:AA):Option (List AA) :=
 CS.l0 (([]:List AA),0,x)>>=fun (o8:List AA) =>
 (room 72 o8 ([x]))>>=fun (z10:List AA) =>
 some z10
 partial_fixpoint
end
theorem CS.l0.ws:PC CS.l0 (fun x o=>∀ lo c (Q:EP) (hb:∀ s:List AA,o=s→Q (.exit 0) ⟨[(1,.lref 1 0),(3,.own 100300 5 (s.map AA.av))],[(1,[.v (.i64 x.2.2.Kind),.v (.i64 x.2.2.Table),.v (.slice .foreign (x.2.2.Kids.map AA.av)),.v (.slice .foreign (x.2.2.Conj.map AB.av)),.v (.bool x.2.2.Hash)])]⟩),AJ Tryz.prog 77 lo c 0 (VQ Q) ⟨[(1,.lref 1 0),(3,.own 100300 5 (x.1.map AA.av)),(4,.v (.i64 x.2.1))],[(1,[.v (.i64 x.2.2.Kind),.v (.i64 x.2.2.Table),.v (.slice .foreign (x.2.2.Kids.map AA.av)),.v (.slice .foreign (x.2.2.Conj.map AB.av)),.v (.bool x.2.2.Hash)])]⟩)∧PC CS (fun x r=>Fn Tryz.prog 77 [.agg (AA.C x)] (.slice .foreign (r.map AA.av))):=by
 refine CS.l0.mutual_partial_correctness _ _ ?_ ?_
 ·intro Jb Xq JA WE x o h
  have Sq:AH Jb _:=⟨JA⟩
  have AJZ:AH Xq _:=⟨WE⟩
  intro lo c Q hb
  refine AJ.step mix AHd (by kernel_rfl) ?_
  simp -implicitDefEqProofs only[go_sem,Tryz.f77]
  exact AN
 ·intro Jb JA x r h
  have Sq:AH Jb _:=⟨JA⟩
  refine Fn.of_lc mix AHd AKq (by rfl) (flC (AA.flatC _) (flN)) (AQ _ AA.flat _) ?_
  simp -implicitDefEqProofs only[go_sem,Tryz.f77]
  exact AN
instance CS.w:type_of% (AH.mk CS.l0.ws.2):=⟨CS.l0.ws.2⟩
end
section
theorem AKk:okF Tryz.f30=true:=by kernel_rfl
def An.l0 (x:List Int × List AA × Int):Option (List Int) :=
 if(decide (x.2.2<(x.2.1.length:Int)))=true then
  (AX x.2.1 x.2.2)>>=fun (e4:AA) =>
  if(e4.Kind == 0)=true then
   (room 8 x.1 ([e4.Table]))>>=fun (z7:List Int) =>
   An.l0 (z7,x.2.1,(w64 (x.2.2+1)))
  else
   An.l0 (x.1,x.2.1,(w64 (x.2.2+1)))
 else
  some x.1
 partial_fixpoint
theorem An.l0.ws:PC An.l0 (fun x o=>∀ lo c (Q:EP) (hb:∀ s:List Int,o=s→Q (.exit 0) ⟨[(3,.own 100300 1 (s.map AV.i64))],[]⟩),AJ Tryz.prog 30 lo c 0 (VQ Q) ⟨[(3,.own 100300 1 (x.1.map AV.i64)),(4,.v (.slice .foreign (x.2.1.map AA.av))),(5,.v (.i64 x.2.2))],[]⟩):=by
 refine An.l0.partial_correctness _ ?_
 ·intro PO Og x o h
  have ACm:AH PO _:=⟨Og⟩
  intro lo c Q hb
  refine AJ.step mix AHW (by kernel_rfl) ?_
  simp -implicitDefEqProofs only[go_sem,Tryz.f30]
  exact AN
instance An.l0.w:type_of% (AH.mk An.l0.ws):=⟨An.l0.ws⟩
def An (x:AA):Option (AC) :=
 CS x>>=fun r1 =>
 An.l0 (([]:List Int),r1,0)>>=fun (o9:List Int) =>
 BO o9>>=fun r11 =>
 some r11
instance An.w:AH An (fun x r=>Fn Tryz.prog 30 [.agg (AA.C x)] (.w r)):=⟨by
 intro x r h
 rw[An] at h
 try dsimp only
 refine Fn.of_lc mix AHW AKk (by rfl) (flC (AA.flatC _) (flN)) (.atom _) ?_
 simp -implicitDefEqProofs only[go_sem,Tryz.f30]
 exact AN⟩
end
section
@[go_sem] theorem AOJ:lrp Tryz.prog 49 5=(6,[]):=by kernel_rfl
theorem AK6:okF Tryz.f49=true:=by kernel_rfl
def CA.r0 (x:List AA × AC):Option (AC) :=
 match x.1 with
 | []=>some x.2
 | e3 :: l4 =>
  if(e3.Kind == 0)=true then
   Cl ([e3.Table])>>=fun r6 =>
   CA.r0 (l4,(x.2|||r6))
  else
   CA.r0 (l4,x.2)
 partial_fixpoint
theorem CA.r0.ws:PC CA.r0 (fun x o=>∀ (Fin:Exit→List (Nat × List CV)→Prop) (hb:∀ (s:AC),o=s→Fin .normal [(2100003,[.v (.w s)])]),HM Tryz.prog 49 Tryz.f49 0 1 #[7] [(3,.lref 2100003 0)] Fin (x.1.map (fun (y:AA)=>[.agg (AA.C y)])) [(2100003,[.v (.w x.2)])]):=by
 refine CA.r0.partial_correctness _ ?_
 ·intro AD5 KU x o h
  intro Fin hb
  generalize hx1:x.1=ys at h ⊢
  cases ys with
  | nil=>injection h with h;subst h;exact HM.nil (hb _ rfl)
  | cons e3 l4 =>
   refine HM.cons rfl fun l0 c1 hlo1=>?_
   dsimp only at h
   simp -implicitDefEqProofs only[go_sem,Tryz.f49]
   refine Qd.mk (by rfl) fun c2 hlo2=>?_
   simp -implicitDefEqProofs only[go_sem,Tryz.f49]
   revert h;refine itE (fun h5 h=>?_) fun h5 h=>?_
   ·try simp -implicitDefEqProofs only[go_sem, *, -h]
    obtain⟨r6,h7,h⟩:=AE h
    have hw:=Cl.w.w ([e3.Table]) _ h7
    simp -implicitDefEqProofs only[go_sem] at hw
    refine .plain _ _ rfl hw ?_
    clear hw
    try simp -implicitDefEqProofs only[go_sem, *, -h]
    exact LN.next [] (by rfl) AL (by rfl) (KU (l4,(x.2|||r6)) _ h Fin hb)
   ·try simp -implicitDefEqProofs only[go_sem, *, -h]
    exact LN.next [] (by rfl) AL (by rfl) (KU (l4,x.2) _ h Fin hb)
instance CA.r0.w:type_of% (AH.mk CA.r0.ws):=⟨CA.r0.ws⟩
def CA (x:AA):Option (AC) :=
 HI x>>=fun l1 =>
 CA.r0 (l1,0#64)>>=fun (s10:AC) =>
 some s10
instance CA.w:AH CA (fun x r=>Fn Tryz.prog 49 [.agg (AA.C x)] (.w r)):=⟨by
 intro x r h
 rw[CA] at h
 try dsimp only
 refine Fn.of_lc mix AHY AK6 (by rfl) (flC (AA.flatC _) (flN)) (.atom _) ?_
 simp -implicitDefEqProofs only[go_sem,Tryz.f49]
 obtain⟨l1,h2,h⟩:=AE h
 refine .iter _ _ rfl (HI.w x _ h2) ?_
 try simp -implicitDefEqProofs only[go_sem]
 obtain⟨s10,h9,h⟩:=AE h
 refine Ku.iter mix AHY (LO.none _) (by kernel_rfl) (by kernel_rfl) (by rfl) rfl [] [(2100003,3)] (by rfl) (by rfl) AL AL (CA.r0.w.w (l1,0#64) _ h9 _ ?_)
 intro s0 hs';subst hs'
 try simp -implicitDefEqProofs only[go_sem]
 injection h with h;subst h
 first | rfl | simp -implicitDefEqProofs only[go_sem] <;> rfl⟩
end
section
def AB.size:AB→Nat
 | ⟨a,b,c,d,e,ps⟩=>1+sizeL ps
where sizeL:List AB→Nat
 | []=>0
 | x :: l=>x.size+sizeL l
theorem AEZ (l:List AB):AB.size.sizeL l=(l.map AB.size).sum:=by
 induction l with
 | nil=>simp only[AB.size.sizeL,List.map_nil,List.sum_nil]
 | cons x l ih=>simp only[AB.size.sizeL,List.map_cons,List.sum_cons,ih]
theorem Jh (x:AB):x.size=1+(x.Parts.map AB.size).sum:=by
 obtain⟨a,b,c,d,e,ps⟩:=x
 simp only[AB.size,AEZ]
def AA.size:AA→Nat
 | ⟨a,b,ks,c,d⟩=>1+(c.map AB.size).sum+sizeL ks
where sizeL:List AA→Nat
 | []=>0
 | x :: l=>x.size+sizeL l
theorem ACv (l:List AA):AA.size.sizeL l=(l.map AA.size).sum:=by
 induction l with
 | nil=>simp only[AA.size.sizeL,List.map_nil,List.sum_nil]
 | cons x l ih=>simp only[AA.size.sizeL,List.map_cons,List.sum_cons,ih]
theorem EE (x:AA):x.size=1+(x.Conj.map AB.size).sum+(x.Kids.map AA.size).sum:=by
 obtain⟨a,b,ks,c,d⟩:=x
 simp only[AA.size,ACv]
theorem Jr (x:AB):1≤x.size:=by rw[Jh];omega
theorem LE (x:AA):1≤x.size:=by rw[EE];omega
theorem Vm {α:Type} (f:α→Nat):∀ {l:List α} {x:α},x∈l→f x≤(l.map f).sum:=by
 intro l
 induction l with
 | nil=>intro x h;cases h
 | cons y l ih =>
  intro x h
  simp only[List.map_cons,List.sum_cons]
  rcases List.mem_cons.1 h with rfl | h
  ·omega
  ·have:=ih h;omega
theorem Nk {α:Type} (f:α→Nat) (h1:∀ x,1≤f x):∀ (l:List α),l.length≤(l.map f).sum:=by
 intro l
 induction l with
 | nil=>simp
 | cons y l ih=>simp only[List.map_cons,List.sum_cons,List.length_cons];have:=h1 y;omega
theorem Xs (p:AB):∀ k:Nat,1≤k→k<9223372036854775808→CX (p,(k:Int))=some ((min p.size k:Nat):Int):=by
 induction p using AB.induct with
 | h p ih =>
  intro k hk1 hk2
  have key:=Fy p.Parts (fun i n=>1≤n∧n≤k∧i<n) (fun i (n:Nat)=>CX.l0 ((k:Int),(n:Int),(i:Int),p)) (fun n l=>some ((min (n+(l.map AB.size).sum) k:Nat):Int))
   (fun n hn=>by
    show CX.l0 _=_
    rw[CX.l0,if_neg (dge (by dsimp only;omega))]
    simp only[List.map_nil,List.sum_nil,Nat.add_zero]
    rw[Nat.min_eq_left hn.2.1])
   (fun i n h hn ih2=>by
    show CX.l0 _=_
    rw[CX.l0,if_pos (dlt (by dsimp only;omega))]
    dsimp only
    by_cases h1:n<k
    ·rw[if_pos (dlt (by omega)),Ag h]
     have e1:w64 ((k:Int) - (n:Int))=((k - n:Nat):Int):=by rw[Ge (by omega) (by omega)];omega
     simp only[Option.bind_eq_bind,Option.bind_some]
     rw[e1,ih _ (List.getElem_mem h) (k - n) (by omega) (by omega)]
     simp only[Option.bind_some]
     have hp:=Jr p.Parts[i]
     have e2:w64 ((n:Int)+((min p.Parts[i].size (k - n):Nat):Int))=((min (n+p.Parts[i].size) k:Nat):Int):=by rw[Ge (by omega) (by omega)];omega
     rw[e2,AU (by omega)]
     have:=ih2 (min (n+p.Parts[i].size) k) (by omega)
     try dsimp only at this
     rw[this]
     simp only[List.map_cons,List.sum_cons]
     congr 2;omega
    ·rw[if_neg (dge (by omega))]
     congr 2;omega) 0 1 (Nat.zero_le _) (by omega)
  rw[CX]
  rw[List.drop_zero] at key
  have key':CX.l0 ((k:Int),1,0,p)=_:=key
  dsimp only
  rw[key',Jh];rfl
theorem Xb (t:AA):∀ k:Nat,1≤k→k<9223372036854775808→BA (t,(k:Int))=some ((min t.size k:Nat):Int):=by
 induction t using AA.induct with
 | h t ih =>
  intro k hk1 hk2
  have key:=Fy t.Conj (fun i n=>1≤n∧n≤k∧i<n) (fun i (n:Nat)=>BA.l0 ((k:Int),(n:Int),(i:Int),t)) (fun n l=>some ((min (n+(l.map AB.size).sum) k:Nat):Int))
   (fun n hn=>by
    show BA.l0 _=_
    rw[BA.l0,if_neg (dge (by dsimp only;omega))]
    simp only[List.map_nil,List.sum_nil,Nat.add_zero]
    rw[Nat.min_eq_left hn.2.1])
   (fun i n h hn ih2=>by
    show BA.l0 _=_
    rw[BA.l0,if_pos (dlt (by dsimp only;omega))]
    dsimp only
    by_cases h1:n<k
    ·rw[if_pos (dlt (by omega)),Ag h]
     have e1:w64 ((k:Int) - (n:Int))=((k - n:Nat):Int):=by rw[Ge (by omega) (by omega)];omega
     simp only[Option.bind_eq_bind,Option.bind_some]
     rw[e1,Xs _ (k - n) (by omega) (by omega)]
     simp only[Option.bind_some]
     have hp:=Jr t.Conj[i]
     have e2:w64 ((n:Int)+((min t.Conj[i].size (k - n):Nat):Int))=((min (n+t.Conj[i].size) k:Nat):Int):=by rw[Ge (by omega) (by omega)];omega
     rw[e2,AU (by omega)]
     have:=ih2 (min (n+t.Conj[i].size) k) (by omega)
     try dsimp only at this
     rw[this]
     simp only[List.map_cons,List.sum_cons]
     congr 2;omega
    ·rw[if_neg (dge (by omega))]
     congr 2;omega) 0 1 (Nat.zero_le _) (by omega)
  have key2:=fun n0 (h0:1≤n0∧n0≤k)=>Fy t.Kids (fun i n=>1≤n∧n≤k∧i<n) (fun i (n:Nat)=>BA.l1 ((k:Int),(n:Int),(i:Int),t)) (fun n l=>some ((min (n+(l.map AA.size).sum) k:Nat):Int))
   (fun n hn=>by
    show BA.l1 _=_
    rw[BA.l1,if_neg (dge (by dsimp only;omega))]
    simp only[List.map_nil,List.sum_nil,Nat.add_zero]
    rw[Nat.min_eq_left hn.2.1])
   (fun i n h hn ih2=>by
    show BA.l1 _=_
    rw[BA.l1,if_pos (dlt (by dsimp only;omega))]
    dsimp only
    by_cases h1:n<k
    ·rw[if_pos (dlt (by omega)),Ag h]
     have e1:w64 ((k:Int) - (n:Int))=((k - n:Nat):Int):=by rw[Ge (by omega) (by omega)];omega
     simp only[Option.bind_eq_bind,Option.bind_some]
     rw[e1,ih _ (List.getElem_mem h) (k - n) (by omega) (by omega)]
     simp only[Option.bind_some]
     have hp:=LE t.Kids[i]
     have e2:w64 ((n:Int)+((min t.Kids[i].size (k - n):Nat):Int))=((min (n+t.Kids[i].size) k:Nat):Int):=by rw[Ge (by omega) (by omega)];omega
     rw[e2,AU (by omega)]
     have:=ih2 (min (n+t.Kids[i].size) k) (by omega)
     try dsimp only at this
     rw[this]
     simp only[List.map_cons,List.sum_cons]
     congr 2;omega
    ·rw[if_neg (dge (by omega))]
     congr 2;omega) 0 n0 (Nat.zero_le _) (by omega)
  rw[BA]
  rw[List.drop_zero] at key
  have key':BA.l0 ((k:Int),1,0,t)=_:=key
  dsimp only
  rw[key']
  simp only[Option.bind_eq_bind,Option.bind_some]
  have k2:=key2 (min (1+(t.Conj.map AB.size).sum) k) (by omega)
  rw[List.drop_zero] at k2
  have k3:BA.l1 ((k:Int),((min (1+(t.Conj.map AB.size).sum) k:Nat):Int),0,t)=_:=k2
  rw[k3,EE]
  simp only[Option.bind_some]
  congr 2;omega
theorem Ww (t:AA):t∈t.tour:=by rw[Db];simp
theorem YH {t y:AA} (h:y∈t.Kids):∀ z∈y.tour,z∈t.tour:=by
 intro z hz
 rw[Db,List.mem_append]
 exact .inl (List.mem_flatMap.2 ⟨y,h,hz⟩)
theorem Cc {t y:AA} (h:y∈t.Kids):y.size<t.size:=by
 have:=Vm AA.size h
 rw[EE t];omega
theorem Jn (t:AA):∀ y∈t.tour,y.size≤t.size:=by
 induction t using AA.induct with
 | h t ih =>
  intro y hy
  rw[Db,List.mem_append] at hy
  rcases hy with hy | hy
  ·obtain⟨k,hk,hy⟩:=List.mem_flatMap.1 hy
   have:=ih k hk y hy
   have:=Cc hk
   omega
  ·simp at hy;subst hy;exact Nat.le_refl _
theorem MQ (t:AA):t.Kids.length<t.size:=by
 have:=Nk AA.size LE t.Kids
 rw[EE];omega
theorem Kc (t:AA):t.Conj.length<t.size:=by
 have:=Nk AB.size Jr t.Conj
 rw[EE];omega
theorem KY (t:AA):t.tour.length≤t.size:=by
 induction t using AA.induct with
 | h t ih =>
  rw[Db,List.length_append,EE,List.length_flatMap]
  have:∀ l:List AA,(∀ y∈l,y.tour.length≤y.size)→(l.map fun y=>y.tour.length).sum≤(l.map AA.size).sum:=by
   intro l
   induction l with
   | nil=>intro _;simp
   | cons y l ih=>intro h;simp only[List.map_cons,List.sum_cons];have:=ih fun z hz=>h z (List.mem_cons_of_mem _ hz);have:=h y List.mem_cons_self;omega
  have:=this t.Kids ih
  simp;omega
def Ad (l:List AA):List Int:=(l.filter fun y=>y.Kind == 0).map AA.Table
theorem II {x:AA} (l:List AA) (h:x.Kind=0):Ad (x :: l)=x.Table :: Ad l:=by simp[Ad,h]
theorem GV {x:AA} (l:List AA) (h:¬ x.Kind=0):Ad (x :: l)=Ad l:=by simp[Ad,h]
def AS (t:AA):AC:=ofL (Ad t.tour)
theorem MZ (l:List AA):(Ad l).length≤l.length:=by
 unfold Ad
 rw[List.length_map];exact List.length_filter_le _ _
theorem Ze (t:AA) (h:t.size<9223372036854775808):HI t=some t.tour:=by
 unfold HI
 rw[if_pos]
 rw[List.all_eq_true]
 intro y hy
 have:=Jn t y hy
 have:=MQ y
 simp;omega
theorem VL (t:AA) (h:t.size<9223372036854775808):CA t=some (AS t):=by
 have key:∀ (l:List AA) (s:AC),CA.r0 (l,s)=some (s|||ofL (Ad l)):=by
  intro l
  induction l with
  | nil=>intro s;rw[CA.r0];simp[Ad,Hy]
  | cons x l ih =>
   intro s
   rw[CA.r0]
   dsimp only
   by_cases hx:x.Kind=0
   ·rw[if_pos (by simpa using hx),Ul _ (by simp)]
    simp only[Option.bind_eq_bind,Option.bind_some,ih]
    have:Ad (x :: l)=x.Table :: Ad l:=by simp[Ad,hx]
    rw[this,Gd,Gd,Hy,BitVec.or_zero,BitVec.or_assoc]
   ·rw[if_neg (by simpa using hx),ih]
    have:Ad (x :: l)=Ad l:=by simp[Ad,hx]
    rw[this]
 unfold CA
 rw[Ze t h]
 simp only[Option.bind_eq_bind,Option.bind_some,key,BitVec.zero_or];rfl
theorem KJ (t:AA):t.size≤1000000000→CS t=some t.tour:=by
 induction t using AA.induct with
 | h t ih =>
  intro hsz
  have hk:=MQ t
  have htl:=KY t
  have key:=Fy t.Kids (fun i acc=>acc=(t.Kids.take i).flatMap AA.tour) (fun i (acc:List AA)=>CS.l0 (acc,(i:Int),t)) (fun acc l=>some (acc++l.flatMap AA.tour))
   (fun acc ha=>by
    show CS.l0 _=_
    rw[CS.l0,if_neg (dge (by dsimp only;omega))]
    simp)
   (fun i acc h ha ih2=>by
    show CS.l0 _=_
    rw[CS.l0,if_pos (dlt (by dsimp only;omega))]
    dsimp only
    rw[Ag h]
    have hm:=List.getElem_mem h
    have hks:=Cc hm
    simp only[Option.bind_eq_bind,Option.bind_some]
    rw[ih _ hm (by omega)]
    simp only[Option.bind_some]
    have e:acc++t.Kids[i].tour=(t.Kids.take (i+1)).flatMap AA.tour:=by
     rw[List.take_succ_eq_append_getElem h,List.flatMap_append,ha];simp
    have hle:(acc++t.Kids[i].tour).length≤t.tour.length:=by
     rw[e,Db,List.length_append]
     have:t.Kids.flatMap AA.tour=(t.Kids.take (i+1)).flatMap AA.tour++(t.Kids.drop (i+1)).flatMap AA.tour:=by rw[← List.flatMap_append,List.take_append_drop]
     rw[this,List.length_append];omega
    rw[Bp (by rw[← List.length_append];omega)]
    simp only[Option.bind_some]
    rw[AU (by omega)]
    have:=ih2 (acc++t.Kids[i].tour) e
    try dsimp only at this
    rw[this]
    simp only[List.flatMap_cons,List.append_assoc]) 0 [] (Nat.zero_le _) (by simp)
  rw[CS]
  rw[List.drop_zero,List.nil_append] at key
  have key':CS.l0 (([]:List AA),0,t)=some (t.Kids.flatMap AA.tour):=key
  rw[key']
  simp only[Option.bind_eq_bind,Option.bind_some]
  rw[Bp (by
   have:(t.Kids.flatMap AA.tour++[t]).length≤t.size:=by rw[← Db];exact htl
   rw[List.length_append] at this
   omega)]
  simp only[Option.bind_some]
  rw[Db]
theorem Cm (t:AA) (hsz:t.size≤1000000000):An t=some (AS t):=by
 have htl:=KY t
 have key:∀ (l:List AA),l.length≤1000000000→An.l0 (([]:List Int),l,0)=some (Ad l):=by
  intro l hl
  have:=Fy l (fun i acc=>acc.length≤i) (fun i (acc:List Int)=>An.l0 (acc,l,(i:Int))) (fun acc l=>some (acc++Ad l))
   (fun acc ha=>by
    show An.l0 _=_
    rw[An.l0,if_neg (dge (by dsimp only;omega))]
    simp[Ad])
   (fun i acc h ha ih2=>by
    show An.l0 _=_
    rw[An.l0,if_pos (dlt (by dsimp only;omega))]
    dsimp only
    rw[Ag h]
    simp only[Option.bind_eq_bind,Option.bind_some]
    rw[AU (by omega)]
    by_cases hx:l[i].Kind=0
    ·rw[if_pos (by simpa using hx),Bp (by simp;omega)]
     simp only[Option.bind_some]
     have:=ih2 (acc++[l[i].Table]) (by simp;omega)
     try dsimp only at this
     rw[this]
     rw[II _ hx,List.append_assoc];rfl
    ·rw[if_neg (by simpa using hx)]
     have:=ih2 acc (by omega)
     try dsimp only at this
     rw[this]
     rw[GV _ hx]) 0 [] (Nat.zero_le _) (by simp)
  rw[List.drop_zero,List.nil_append] at this
  exact this
 unfold An
 rw[KJ t hsz]
 simp only[Option.bind_eq_bind,Option.bind_some]
 rw[key _ (by omega)]
 simp only[Option.bind_some]
 rw[JJ _ (by have:=MZ t.tour;omega)];rfl
end
section
theorem AIm:okF Tryz.f140=true:=by kernel_rfl
mutual
def BM.l0 (x:AC × Int × AA):Option (AC) :=
 if(decide (x.2.1<(x.2.2.Kids.length:Int)))=true then
  if(x.2.1 == 0)=true then
   (AX x.2.2.Kids x.2.1)>>=fun (e6:AA) =>
   BM e6>>=fun r8 =>
   BM.l0 ((x.1|||r8),(w64 (x.2.1+1)),x.2.2)
  else
   if(x.2.2.Kind != 3)=true then
    if(x.2.2.Kind != 4)=true then
     (AX x.2.2.Kids x.2.1)>>=fun (e12:AA) =>
     BM e12>>=fun r14 =>
     BM.l0 ((x.1|||r14),(w64 (x.2.1+1)),x.2.2)
    else
     BM.l0 (x.1,(w64 (x.2.1+1)),x.2.2)
   else
    BM.l0 (x.1,(w64 (x.2.1+1)),x.2.2)
 else
  some x.1
 partial_fixpoint
def BM (x:AA):Option (AC) :=
 if(x.Kind == 0)=true then
  BO ([x.Table])>>=fun r2 =>
  some r2
 else
  BM.l0 (0#64,0,x)>>=fun (o16:AC) =>
  some o16
 partial_fixpoint
end
theorem BM.l0.ws:PC BM.l0 (fun x o=>∀ lo c (Q:EP) (hb:∀ s:AC,o=s→Q (.exit 0) ⟨[(3,.v (.w s))],[]⟩),AJ Tryz.prog 140 lo c 0 (VQ Q) ⟨[(1,.lref 1 0),(3,.v (.w x.1)),(4,.v (.i64 x.2.1))],[(1,[.v (.i64 x.2.2.Kind),.v (.i64 x.2.2.Table),.v (.slice .foreign (x.2.2.Kids.map AA.av)),.v (.slice .foreign (x.2.2.Conj.map AB.av)),.v (.bool x.2.2.Hash)])]⟩)∧PC BM (fun x r=>Fn Tryz.prog 140 [.agg (AA.C x)] (.w r)):=by
 refine BM.l0.mutual_partial_correctness _ _ ?_ ?_
 ·intro Ir Vz IP UG x o h
  have Rv:AH Ir _:=⟨IP⟩
  have AIt:AH Vz _:=⟨UG⟩
  intro lo c Q hb
  refine AJ.step mix AC9 (by kernel_rfl) ?_
  simp -implicitDefEqProofs only[go_sem,Tryz.f140]
  exact AN
 ·intro Ir IP x r h
  have Rv:AH Ir _:=⟨IP⟩
  refine Fn.of_lc mix AC9 AIm (by rfl) (flC (AA.flatC _) (flN)) (.atom _) ?_
  simp -implicitDefEqProofs only[go_sem,Tryz.f140]
  exact AN
instance BM.w:type_of% (AH.mk BM.l0.ws.2):=⟨BM.l0.ws.2⟩
end
section
theorem AIb:okF Tryz.f156=true:=by kernel_rfl
mutual
def BR.l0 (x:List CB × Int × AB):Option (List CB) :=
 if(decide (x.2.1<(x.2.2.Parts.length:Int)))=true then
  (AX x.2.2.Parts x.2.1)>>=fun (e8:AB) =>
  BR e8>>=fun r10 =>
  (room 16 x.1 r10)>>=fun (z12:List CB) =>
  BR.l0 (z12,(w64 (x.2.1+1)),x.2.2)
 else
  some x.1
 partial_fixpoint
def BR (x:AB):Option (List CB) :=
 if(x.A.Kind == 1)=true then
  (room 16 ([]:List CB) ([(⟨x.A.Table,x.A.Col⟩:CB)]))>>=fun (z2:List CB) =>
  if(x.B.Kind == 1)=true then
   (room 16 z2 ([(⟨x.B.Table,x.B.Col⟩:CB)]))>>=fun (z5:List CB) =>
   BR.l0 (z5,0,x)>>=fun (o14:List CB) =>
   some o14
  else
   BR.l0 (z2,0,x)>>=fun (o16:List CB) =>
   some o16
 else
  if(x.B.Kind == 1)=true then
   (room 16 ([]:List CB) ([(⟨x.B.Table,x.B.Col⟩:CB)]))>>=fun (z19:List CB) =>
   BR.l0 (z19,0,x)>>=fun (o21:List CB) =>
   some o21
  else
   BR.l0 (([]:List CB),0,x)>>=fun (o23:List CB) =>
   some o23
 partial_fixpoint
end
theorem BR.l0.ws:PC BR.l0 (fun x o=>∀ lo c (Q:EP) (hb:∀ s:List CB,o=s→Q (.exit 0) ⟨[(3,.own 100300 2 (s.map CB.av))],[]⟩),AJ Tryz.prog 156 lo c 0 (VQ Q) ⟨[(1,.lref 1 0),(3,.own 100300 2 (x.1.map CB.av)),(4,.v (.i64 x.2.1))],[(1,[.v (.i64 x.2.2.Kind),.v (.i64 x.2.2.Truth),.v (.i64 x.2.2.Op),.v (.i64 x.2.2.A.Kind),.v (.i64 x.2.2.A.Table),.v (.i64 x.2.2.A.Col),.v (.bool x.2.2.A.Value.Null),.v (.i64 x.2.2.A.Value.N),.v (.i64 x.2.2.B.Kind),.v (.i64 x.2.2.B.Table),.v (.i64 x.2.2.B.Col),.v (.bool x.2.2.B.Value.Null),.v (.i64 x.2.2.B.Value.N),.v (.slice .foreign (x.2.2.Parts.map AB.av))])]⟩)∧PC BR (fun x r=>Fn Tryz.prog 156 [.agg (AB.C x)] (.slice .foreign (r.map CB.av))):=by
 refine BR.l0.mutual_partial_correctness _ _ ?_ ?_
 ·intro Hk Rn HR Qr x o h
  have OI:AH Hk _:=⟨HR⟩
  have AFP:AH Rn _:=⟨Qr⟩
  intro lo c Q hb
  refine AJ.step mix AEf (by kernel_rfl) ?_
  simp -implicitDefEqProofs only[go_sem,Tryz.f156]
  exact AN
 ·intro Hk HR x r h
  have OI:AH Hk _:=⟨HR⟩
  refine Fn.of_lc mix AEf AIb (by rfl) (flC (AB.flatC _) (flN)) (AQ _ CB.flat _) ?_
  simp -implicitDefEqProofs only[go_sem,Tryz.f156]
  exact AN
instance BR.w:type_of% (AH.mk BR.l0.ws.2):=⟨BR.l0.ws.2⟩
end
section
theorem AI6:okF Tryz.f165=true:=by kernel_rfl
def Hn (x:BV):Option (Bool) :=
 if x.Null=true then
  some (x.N == 0)
 else
  some true
instance Hn.w:AH Hn (fun x r=>Fn Tryz.prog 165 [.agg (BV.C x)] (.bool r)):=⟨by
 intro x r h
 rw[Hn] at h
 try dsimp only
 refine Fn.of_lc mix ALx AI6 (by rfl) (flC (BV.flatC _) (flN)) (.atom _) ?_
 simp -implicitDefEqProofs only[go_sem,Tryz.f165]
 exact AN⟩
end
section
theorem AIT:okF Tryz.f163=true:=by kernel_rfl
def Ds (x:BE):Option (Bool) :=
 if(x.Kind == 1)=true then
  if(decide (x.Table ≥ 0))=true then
   if(decide (x.Table≤63))=true then
    if(decide (x.Col ≥ 0))=true then
     if(decide (x.Col≤3))=true then
      if x.Value.Null=true then
       some false
      else
       some (x.Value.N == 0)
     else
      some false
    else
     some false
   else
    some false
  else
   some false
 else
  if(x.Kind == 2)=true then
   if(x.Table == 0)=true then
    if(x.Col == 0)=true then
     Hn x.Value>>=fun r10 =>
     some r10
    else
     some false
   else
    some false
  else
   some false
instance Ds.w:AH Ds (fun x r=>Fn Tryz.prog 163 [.agg (BE.C x)] (.bool r)):=⟨by
 intro x r h
 rw[Ds] at h
 try dsimp only
 refine Fn.of_lc mix AJz AIT (by rfl) (flC (BE.flatC _) (flN)) (.atom _) ?_
 simp -implicitDefEqProofs only[go_sem,Tryz.f163]
 exact AN⟩
end
section
theorem AIg:okF Tryz.f159=true:=by kernel_rfl
mutual
def Co.l0 (x:Int × Int × AB):Option (Lp (Unit) (Bool)) :=
 if(decide (x.2.1<(x.2.2.Parts.length:Int)))=true then
  (AX x.2.2.Parts x.2.1)>>=fun (e12:AB) =>
  Co (e12,(w64 (x.1+1)))>>=fun r14 =>
  if r14=true then
   Co.l0 (x.1,(w64 (x.2.1+1)),x.2.2)
  else
   some (.ret false)
 else
  some (.brk ())
 partial_fixpoint
def Co (x:AB × Int):Option (Bool) :=
 if(decide (x.2 > 4))=true then
  some false
 else
  if(decide (x.1.Kind<1))=true then
   some false
  else
   if(decide (x.1.Kind > 6))=true then
    some false
   else
    if(x.1.Kind != 1)=true then
     if(x.1.Truth != 0)=true then
      some false
     else
      if(x.1.Kind != 2)=true then
       if(x.1.Op != 0)=true then
        some false
       else
        if((x.1.B.Kind == 0)&&((x.1.B.Table == 0)&&((x.1.B.Col == 0)&&((!x.1.B.Value.Null)&&(x.1.B.Value.N == 0)))))=true then
         if(x.1.Kind != 3)=true then
          if((x.1.A.Kind == 0)&&((x.1.A.Table == 0)&&((x.1.A.Col == 0)&&((!x.1.A.Value.Null)&&(x.1.A.Value.N == 0)))))=true then
           Co.l0 (x.2,0,x.1)>>=fun (o17:Lp (Unit) (Bool))=>match o17 with
           | .brk s20 =>
            if(x.1.Kind == 6)=true then
             some ((x.1.Parts.length:Int) == 1)
            else
             some (decide ((x.1.Parts.length:Int)≤4))
           | .ret r19 =>
            some r19
          else
           some false
         else
          Co.l0 (x.2,0,x.1)>>=fun (o25:Lp (Unit) (Bool))=>match o25 with
          | .brk s28 =>
           if((x.1.Parts.length:Int) == 0)=true then
            Ds x.1.A>>=fun r33 =>
            some r33
           else
            some false
          | .ret r27 =>
           some r27
        else
         some false
      else
       Co.l0 (x.2,0,x.1)>>=fun (o35:Lp (Unit) (Bool))=>match o35 with
       | .brk s38 =>
        if((x.1.Parts.length:Int) == 0)=true then
         if(decide (x.1.Op ≥ 1))=true then
          if(decide (x.1.Op≤6))=true then
           Ds x.1.A>>=fun r44 =>
           if r44=true then
            Ds x.1.B>>=fun r47 =>
            some r47
           else
            some false
          else
           some false
         else
          some false
        else
         some false
       | .ret r37 =>
        some r37
    else
     if(x.1.Op != 0)=true then
      some false
     else
      if((x.1.B.Kind == 0)&&((x.1.B.Table == 0)&&((x.1.B.Col == 0)&&((!x.1.B.Value.Null)&&(x.1.B.Value.N == 0)))))=true then
       if((x.1.A.Kind == 0)&&((x.1.A.Table == 0)&&((x.1.A.Col == 0)&&((!x.1.A.Value.Null)&&(x.1.A.Value.N == 0)))))=true then
        Co.l0 (x.2,0,x.1)>>=fun (o54:Lp (Unit) (Bool))=>match o54 with
        | .brk s57 =>
         if((x.1.Parts.length:Int) == 0)=true then
          if(decide (x.1.Truth ≥ 0))=true then
           some (decide (x.1.Truth≤2))
          else
           some false
         else
          some false
        | .ret r56 =>
         some r56
       else
        some false
      else
       some false
 partial_fixpoint
end
theorem Co.l0.ws:PC Co.l0 (fun x o=>∀ lo c (Q:EP) (hb:∀ s:Unit,o=Lp.brk s→Q (.exit 0) ⟨[(2,.lref 2 0)],[(2,[.v (.i64 x.2.2.Kind),.v (.i64 x.2.2.Truth),.v (.i64 x.2.2.Op),.v (.i64 x.2.2.A.Kind),.v (.i64 x.2.2.A.Table),.v (.i64 x.2.2.A.Col),.v (.bool x.2.2.A.Value.Null),.v (.i64 x.2.2.A.Value.N),.v (.i64 x.2.2.B.Kind),.v (.i64 x.2.2.B.Table),.v (.i64 x.2.2.B.Col),.v (.bool x.2.2.B.Value.Null),.v (.i64 x.2.2.B.Value.N),.v (.slice .foreign (x.2.2.Parts.map AB.av))])]⟩) (hr:∀ (r:Bool) (L:AM),o=.ret r→DO Tryz.prog [.tmp 4] (.bool r) (fun _=>True) .ret L→Q .ret L),AJ Tryz.prog 159 lo c 0 (VQ Q) ⟨[(1,.v (.i64 x.1)),(2,.lref 2 0),(6,.v (.i64 x.2.1))],[(2,[.v (.i64 x.2.2.Kind),.v (.i64 x.2.2.Truth),.v (.i64 x.2.2.Op),.v (.i64 x.2.2.A.Kind),.v (.i64 x.2.2.A.Table),.v (.i64 x.2.2.A.Col),.v (.bool x.2.2.A.Value.Null),.v (.i64 x.2.2.A.Value.N),.v (.i64 x.2.2.B.Kind),.v (.i64 x.2.2.B.Table),.v (.i64 x.2.2.B.Col),.v (.bool x.2.2.B.Value.Null),.v (.i64 x.2.2.B.Value.N),.v (.slice .foreign (x.2.2.Parts.map AB.av))])]⟩)∧PC Co (fun x r=>Fn Tryz.prog 159 [.agg (AB.C x.1),.i64 x.2] (.bool r)):=by
 refine Co.l0.mutual_partial_correctness _ _ ?_ ?_
 ·intro Mk ZB FQ Xe x o h
  have AHX:AH Mk _:=⟨FQ⟩
  have AK2:AH ZB _:=⟨Xe⟩
  intro lo c Q hb hr
  refine AJ.step mix AEe (by kernel_rfl) ?_
  simp -implicitDefEqProofs only[go_sem,Tryz.f159]
  exact AN
 ·intro Mk FQ x r h
  refine Fn.of_lc mix AEe AIg (by rfl) (flC (AB.flatC _) (flC (.atom _) (flN))) (.atom _) ?_
  simp -implicitDefEqProofs only[go_sem,Tryz.f159]
  revert h;refine itE (fun h1 h=>?_) fun h1 h=>?_
  ·try simp -implicitDefEqProofs only[go_sem, *, -h]
   injection h with h;subst h
   exact AL
  ·try simp -implicitDefEqProofs only[go_sem, *, -h]
   revert h;refine itE (fun h2 h=>?_) fun h2 h=>?_
   ·try simp -implicitDefEqProofs only[go_sem, *, -h]
    injection h with h;subst h
    exact AL
   ·try simp -implicitDefEqProofs only[go_sem, *, -h]
    revert h;refine itE (fun h3 h=>?_) fun h3 h=>?_
    ·try simp -implicitDefEqProofs only[go_sem, *, -h]
     injection h with h;subst h
     exact AL
    ·try simp -implicitDefEqProofs only[go_sem, *, -h]
     revert h;refine itE (fun h4 h=>?_) fun h4 h=>?_
     ·try simp -implicitDefEqProofs only[go_sem, *, -h]
      revert h;refine itE (fun h5 h=>?_) fun h5 h=>?_
      ·try simp -implicitDefEqProofs only[go_sem, *, -h]
       injection h with h;subst h
       exact AL
      ·try simp -implicitDefEqProofs only[go_sem, *, -h]
       revert h;refine itE (fun h6 h=>?_) fun h6 h=>?_
       ·try simp -implicitDefEqProofs only[go_sem, *, -h]
        revert h;refine itE (fun h7 h=>?_) fun h7 h=>?_
        ·try simp -implicitDefEqProofs only[go_sem, *, -h]
         injection h with h;subst h
         exact AL
        ·try simp -implicitDefEqProofs only[go_sem, *, -h]
         revert h;refine itE (fun h8 h=>?_) fun h8 h=>?_
         ·try simp -implicitDefEqProofs only[go_sem, *, -h]
          revert h;refine itE (fun h9 h=>?_) fun h9 h=>?_
          ·try simp -implicitDefEqProofs only[go_sem, *, -h]
           revert h;refine itE (fun h10 h=>?_) fun h10 h=>?_
           ·try simp -implicitDefEqProofs only[go_sem, *, -h]
            obtain⟨o17,h18,h⟩:=AE h
            refine AJ.viewQ (AJ.view [] AL (FQ (x.2,0,x.1) _ h18 _ _ _ ?_ ?_))
            ·intro s20 hs';subst hs'
             try simp -implicitDefEqProofs only[go_sem, *, -h]
             have h21:(x.1.Kind == 1)=false:=Oa h4
             try simp -implicitDefEqProofs only[go_sem, *, -h]
             have h22:(x.1.Kind == 2)=false:=Oa h6
             try simp -implicitDefEqProofs only[go_sem, *, -h]
             have h23:(x.1.Kind == 3)=false:=Oa h9
             try simp -implicitDefEqProofs only[go_sem, *, -h]
             revert h;refine itE (fun h24 h=>?_) fun h24 h=>?_
             ·try simp -implicitDefEqProofs only[go_sem, *, -h]
              injection h with h;subst h
              exact AL
             ·try simp -implicitDefEqProofs only[go_sem, *, -h]
              injection h with h;subst h
              exact AL
            ·intro r19 L' hs' hL';subst hs'
             injection h with h;subst h
             first | exact hL' | (simp -implicitDefEqProofs only[go_sem];exact hL') | (simp -implicitDefEqProofs only[go_sem];simp -implicitDefEqProofs only[go_sem] at hL';exact hL')
           ·try simp -implicitDefEqProofs only[go_sem, *, -h]
            injection h with h;subst h
            exact AL
          ·try simp -implicitDefEqProofs only[go_sem, *, -h]
           obtain⟨o25,h26,h⟩:=AE h
           refine AJ.viewQ (AJ.view [] AL (FQ (x.2,0,x.1) _ h26 _ _ _ ?_ ?_))
           ·intro s28 hs';subst hs'
            try simp -implicitDefEqProofs only[go_sem, *, -h]
            have h29:(x.1.Kind == 1)=false:=Oa h4
            try simp -implicitDefEqProofs only[go_sem, *, -h]
            have h30:(x.1.Kind == 2)=false:=Oa h6
            try simp -implicitDefEqProofs only[go_sem, *, -h]
            have h31:(x.1.Kind == 3)=true:=YE h9
            try simp -implicitDefEqProofs only[go_sem, *, -h]
            revert h;refine itE (fun h32 h=>?_) fun h32 h=>?_
            ·try simp -implicitDefEqProofs only[go_sem, *, -h]
             obtain⟨r33,h34,h⟩:=AE h
             refine .plain _ _ rfl (Ds.w.w x.1.A _ h34) ?_
             try simp -implicitDefEqProofs only[go_sem, *, -h]
             injection h with h;subst h
             exact AL
            ·try simp -implicitDefEqProofs only[go_sem, *, -h]
             injection h with h;subst h
             exact AL
           ·intro r27 L' hs' hL';subst hs'
            injection h with h;subst h
            first | exact hL' | (simp -implicitDefEqProofs only[go_sem];exact hL') | (simp -implicitDefEqProofs only[go_sem];simp -implicitDefEqProofs only[go_sem] at hL';exact hL')
         ·try simp -implicitDefEqProofs only[go_sem, *, -h]
          injection h with h;subst h
          exact AL
       ·try simp -implicitDefEqProofs only[go_sem, *, -h]
        obtain⟨o35,h36,h⟩:=AE h
        refine AJ.viewQ (AJ.view [] AL (FQ (x.2,0,x.1) _ h36 _ _ _ ?_ ?_))
        ·intro s38 hs';subst hs'
         try simp -implicitDefEqProofs only[go_sem, *, -h]
         have h39:(x.1.Kind == 1)=false:=Oa h4
         try simp -implicitDefEqProofs only[go_sem, *, -h]
         have h40:(x.1.Kind == 2)=true:=YE h6
         try simp -implicitDefEqProofs only[go_sem, *, -h]
         revert h;refine itE (fun h41 h=>?_) fun h41 h=>?_
         ·try simp -implicitDefEqProofs only[go_sem, *, -h]
          revert h;refine itE (fun h42 h=>?_) fun h42 h=>?_
          ·try simp -implicitDefEqProofs only[go_sem, *, -h]
           revert h;refine itE (fun h43 h=>?_) fun h43 h=>?_
           ·try simp -implicitDefEqProofs only[go_sem, *, -h]
            obtain⟨r44,h45,h⟩:=AE h
            refine .plain _ _ rfl (Ds.w.w x.1.A _ h45) ?_
            try simp -implicitDefEqProofs only[go_sem, *, -h]
            revert h;refine itE (fun h46 h=>?_) fun h46 h=>?_
            ·try simp -implicitDefEqProofs only[go_sem, *, -h]
             obtain⟨r47,h48,h⟩:=AE h
             refine .plain _ _ rfl (Ds.w.w x.1.B _ h48) ?_
             try simp -implicitDefEqProofs only[go_sem, *, -h]
             injection h with h;subst h
             exact AL
            ·try simp -implicitDefEqProofs only[go_sem, *, -h]
             injection h with h;subst h
             exact AL
           ·try simp -implicitDefEqProofs only[go_sem, *, -h]
            injection h with h;subst h
            exact AL
          ·try simp -implicitDefEqProofs only[go_sem, *, -h]
           injection h with h;subst h
           exact AL
         ·try simp -implicitDefEqProofs only[go_sem, *, -h]
          injection h with h;subst h
          exact AL
        ·intro r37 L' hs' hL';subst hs'
         injection h with h;subst h
         first | exact hL' | (simp -implicitDefEqProofs only[go_sem];exact hL') | (simp -implicitDefEqProofs only[go_sem];simp -implicitDefEqProofs only[go_sem] at hL';exact hL')
     ·try simp -implicitDefEqProofs only[go_sem, *, -h]
      have h49:(x.1.Kind != 2)=true:=by rw[AKm h4];rfl
      try simp -implicitDefEqProofs only[go_sem, *, -h]
      revert h;refine itE (fun h50 h=>?_) fun h50 h=>?_
      ·try simp -implicitDefEqProofs only[go_sem, *, -h]
       injection h with h;subst h
       exact AL
      ·try simp -implicitDefEqProofs only[go_sem, *, -h]
       revert h;refine itE (fun h51 h=>?_) fun h51 h=>?_
       ·try simp -implicitDefEqProofs only[go_sem, *, -h]
        have h52:(x.1.Kind != 3)=true:=by rw[AKm h4];rfl
        try simp -implicitDefEqProofs only[go_sem, *, -h]
        revert h;refine itE (fun h53 h=>?_) fun h53 h=>?_
        ·try simp -implicitDefEqProofs only[go_sem, *, -h]
         obtain⟨o54,h55,h⟩:=AE h
         refine AJ.viewQ (AJ.view [] AL (FQ (x.2,0,x.1) _ h55 _ _ _ ?_ ?_))
         ·intro s57 hs';subst hs'
          try simp -implicitDefEqProofs only[go_sem, *, -h]
          have h58:(x.1.Kind == 1)=true:=YE h4
          try simp -implicitDefEqProofs only[go_sem, *, -h]
          revert h;refine itE (fun h59 h=>?_) fun h59 h=>?_
          ·try simp -implicitDefEqProofs only[go_sem, *, -h]
           revert h;refine itE (fun h60 h=>?_) fun h60 h=>?_
           ·try simp -implicitDefEqProofs only[go_sem, *, -h]
            injection h with h;subst h
            exact AL
           ·try simp -implicitDefEqProofs only[go_sem, *, -h]
            injection h with h;subst h
            exact AL
          ·try simp -implicitDefEqProofs only[go_sem, *, -h]
           injection h with h;subst h
           exact AL
         ·intro r56 L' hs' hL';subst hs'
          injection h with h;subst h
          first | exact hL' | (simp -implicitDefEqProofs only[go_sem];exact hL') | (simp -implicitDefEqProofs only[go_sem];simp -implicitDefEqProofs only[go_sem] at hL';exact hL')
        ·try simp -implicitDefEqProofs only[go_sem, *, -h]
         injection h with h;subst h
         exact AL
       ·try simp -implicitDefEqProofs only[go_sem, *, -h]
        injection h with h;subst h
        exact AL
instance Co.w:type_of% (AH.mk Co.l0.ws.2):=⟨Co.l0.ws.2⟩
end
section
theorem AIw:okF Tryz.f155=true:=by kernel_rfl
def GB (x:AB):Option (Bool) :=
 Co (x,1)>>=fun r1 =>
 some r1
instance GB.w:AH GB (fun x r=>Fn Tryz.prog 155 [.agg (AB.C x)] (.bool r)):=⟨by
 intro x r h
 rw[GB] at h
 try dsimp only
 refine Fn.of_lc mix ALz AIw (by rfl) (flC (AB.flatC _) (flN)) (.atom _) ?_
 simp -implicitDefEqProofs only[go_sem,Tryz.f155]
 exact AN⟩
end
section
theorem AHj:okF Tryz.f116=true:=by kernel_rfl
def EJ (x:BE):Option (AC) :=
 if(x.Kind != 1)=true then
  some (0#64)
 else
  BO ([x.Table])>>=fun r2 =>
  some r2
instance EJ.w:AH EJ (fun x r=>Fn Tryz.prog 116 [.agg (BE.C x)] (.w r)):=⟨by
 intro x r h
 rw[EJ] at h
 try dsimp only
 refine Fn.of_lc mix AL2 AHj (by rfl) (flC (BE.flatC _) (flN)) (.atom _) ?_
 simp -implicitDefEqProofs only[go_sem,Tryz.f116]
 exact AN⟩
end
section
@[go_sem] theorem AOL:lrp Tryz.prog 85 1=(8,[]):=by kernel_rfl
theorem ALW:okF Tryz.f85=true:=by kernel_rfl
mutual
def BY.l0 (x:AC × Int × AB):Option (AC) :=
 if(decide (x.2.1<(x.2.2.Parts.length:Int)))=true then
  (AX x.2.2.Parts x.2.1)>>=fun (e6:AB) =>
  BY e6>>=fun r8 =>
  BY.l0 ((x.1|||r8),(w64 (x.2.1+1)),x.2.2)
 else
  some x.1
 partial_fixpoint
def BY (x:AB):Option (AC) :=
 EJ x.A>>=fun r1 =>
 EJ x.B>>=fun r3 =>
 BY.l0 ((r1|||r3),0,x)>>=fun (o10:AC) =>
 some o10
 partial_fixpoint
end
theorem BY.l0.ws:PC BY.l0 (fun x o=>∀ lo c (Q:EP) (hb:∀ s:AC,o=s→Q (.exit 0) ⟨[(3,.v (.w s))],[]⟩),AJ Tryz.prog 85 lo c 0 (VQ Q) ⟨[(1,.lref 1 0),(3,.v (.w x.1)),(4,.v (.i64 x.2.1))],[(1,[.v (.i64 x.2.2.Kind),.v (.i64 x.2.2.Truth),.v (.i64 x.2.2.Op),.v (.i64 x.2.2.A.Kind),.v (.i64 x.2.2.A.Table),.v (.i64 x.2.2.A.Col),.v (.bool x.2.2.A.Value.Null),.v (.i64 x.2.2.A.Value.N),.v (.i64 x.2.2.B.Kind),.v (.i64 x.2.2.B.Table),.v (.i64 x.2.2.B.Col),.v (.bool x.2.2.B.Value.Null),.v (.i64 x.2.2.B.Value.N),.v (.slice .foreign (x.2.2.Parts.map AB.av))])]⟩)∧PC BY (fun x r=>Fn Tryz.prog 85 [.agg (AB.C x)] (.w r)):=by
 refine BY.l0.mutual_partial_correctness _ _ ?_ ?_
 ·intro IA Tg Hb SG x o h
  have PS:AH IA _:=⟨Hb⟩
  have AFd:AH Tg _:=⟨SG⟩
  intro lo c Q hb
  refine AJ.step mix AHP (by kernel_rfl) ?_
  simp -implicitDefEqProofs only[go_sem,Tryz.f85]
  exact AN
 ·intro IA Hb x r h
  have PS:AH IA _:=⟨Hb⟩
  refine Fn.of_lc mix AHP ALW (by rfl) (flC (AB.flatC _) (flN)) (.atom _) ?_
  simp -implicitDefEqProofs only[go_sem,Tryz.f85]
  exact AN
instance BY.w:type_of% (AH.mk BY.l0.ws.2):=⟨BY.l0.ws.2⟩
end
section
@[go_sem] theorem ANs:lrp Tryz.prog 139 7=(34,[]):=by kernel_rfl
theorem AIx:okF Tryz.f139=true:=by kernel_rfl
def CD.l0 (x:List Int × AC × AC × List CB × Int × AB):Option (Lp (Unit) (Int)) :=
 if(decide (x.2.2.2.2.1<(x.2.2.2.1.length:Int)))=true then
  (AX x.2.2.2.1 x.2.2.2.2.1)>>=fun (e7:CB) =>
  CZ (x.2.1,e7.e0)>>=fun r9 =>
  if r9=true then
   (AX x.1 e7.e0)>>=fun (e12:Int) =>
   if(decide (e7.e1 ≥ e12))=true then
    some (.ret 10)
   else
    CD.l0 (x.1,x.2.1,x.2.2.1,x.2.2.2.1,(w64 (x.2.2.2.2.1+1)),x.2.2.2.2.2)
  else
   CZ (x.2.2.1,e7.e0)>>=fun r15 =>
   if r15=true then
    (AX x.1 e7.e0)>>=fun (e18:Int) =>
    if(decide (e7.e1 ≥ e18))=true then
     some (.ret 10)
    else
     CD.l0 (x.1,x.2.1,x.2.2.1,x.2.2.2.1,(w64 (x.2.2.2.2.1+1)),x.2.2.2.2.2)
   else
    some (.ret 10)
 else
  some (.brk ())
 partial_fixpoint
theorem CD.l0.ws:PC CD.l0 (fun x o=>∀ lo c (Q:EP) (hb:∀ s:Unit,o=Lp.brk s→Q (.exit 0) ⟨[(2,.v (.w x.2.1)),(3,.v (.w x.2.2.1)),(4,.lref 4 0)],[(4,[.v (.i64 x.2.2.2.2.2.Kind),.v (.i64 x.2.2.2.2.2.Truth),.v (.i64 x.2.2.2.2.2.Op),.v (.i64 x.2.2.2.2.2.A.Kind),.v (.i64 x.2.2.2.2.2.A.Table),.v (.i64 x.2.2.2.2.2.A.Col),.v (.bool x.2.2.2.2.2.A.Value.Null),.v (.i64 x.2.2.2.2.2.A.Value.N),.v (.i64 x.2.2.2.2.2.B.Kind),.v (.i64 x.2.2.2.2.2.B.Table),.v (.i64 x.2.2.2.2.2.B.Col),.v (.bool x.2.2.2.2.2.B.Value.Null),.v (.i64 x.2.2.2.2.2.B.Value.N),.v (.slice .foreign (x.2.2.2.2.2.Parts.map AB.av))])]⟩) (hr:∀ (r:Int) (L:AM),o=.ret r→DO Tryz.prog [.tmp 8] (.i64 r) (fun _=>True) .ret L→Q .ret L),AJ Tryz.prog 139 lo c 0 (VQ Q) ⟨[(1,.v (.slice .foreign (x.1.map AV.i64))),(2,.v (.w x.2.1)),(3,.v (.w x.2.2.1)),(4,.lref 4 0),(9,.v (.slice .foreign (x.2.2.2.1.map CB.av))),(10,.v (.i64 x.2.2.2.2.1))],[(4,[.v (.i64 x.2.2.2.2.2.Kind),.v (.i64 x.2.2.2.2.2.Truth),.v (.i64 x.2.2.2.2.2.Op),.v (.i64 x.2.2.2.2.2.A.Kind),.v (.i64 x.2.2.2.2.2.A.Table),.v (.i64 x.2.2.2.2.2.A.Col),.v (.bool x.2.2.2.2.2.A.Value.Null),.v (.i64 x.2.2.2.2.2.A.Value.N),.v (.i64 x.2.2.2.2.2.B.Kind),.v (.i64 x.2.2.2.2.2.B.Table),.v (.i64 x.2.2.2.2.2.B.Col),.v (.bool x.2.2.2.2.2.B.Value.Null),.v (.i64 x.2.2.2.2.2.B.Value.N),.v (.slice .foreign (x.2.2.2.2.2.Parts.map AB.av))])]⟩):=by
 refine CD.l0.partial_correctness _ ?_
 ·intro Ra Qn x o h
  have AFb:AH Ra _:=⟨Qn⟩
  intro lo c Q hb hr
  refine AJ.step mix ADz (by kernel_rfl) ?_
  simp -implicitDefEqProofs only[go_sem,Tryz.f139]
  exact AN
instance CD.l0.w:type_of% (AH.mk CD.l0.ws):=⟨CD.l0.ws⟩
def CD (x:AB × List Int × AC × AC):Option (Int) :=
 GB x.1>>=fun r1 =>
 if r1=true then
  BR x.1>>=fun r4 =>
  CD.l0 (x.2.1,x.2.2.1,x.2.2.2,r4,0,x.1)>>=fun (o21:Lp (Unit) (Int))=>match o21 with
  | .brk s24 =>
   BY x.1>>=fun r25 =>
   if((r25&&&x.2.2.1) == 0#64)=true then
    some 11
   else
    if((r25&&&x.2.2.2) == 0#64)=true then
     some 11
    else
     some 0
  | .ret r23 =>
   some r23
 else
  some 9
instance CD.w:AH CD (fun x r=>Fn Tryz.prog 139 [.agg (AB.C x.1),.slice .foreign (x.2.1.map AV.i64),.w x.2.2.1,.w x.2.2.2] (.i64 r)):=⟨by
 intro x r h
 rw[CD] at h
 try dsimp only
 refine Fn.of_lc mix ADz AIx (by rfl) (flC (AB.flatC _) (flC (AQ _ (fun _=>.atom _) _) (flC (.atom _) (flC (.atom _) (flN))))) (.atom _) ?_
 simp -implicitDefEqProofs only[go_sem,Tryz.f139]
 exact AN⟩
end
section
@[go_sem] theorem ANc:lrp Tryz.prog 114 15=(7,[]):=by kernel_rfl
@[go_sem] theorem AMX:lrp Tryz.prog 114 27=(18,[]):=by kernel_rfl
theorem AHy:okF Tryz.f114=true:=by kernel_rfl
def BU.l0 (x:List Int × Int × AA):Option (Lp (Unit) (Int)) :=
 if(decide (x.2.1<(x.1.length:Int)))=true then
  (AX x.1 x.2.1)>>=fun (e10:Int) =>
  if(e10 == x.2.2.Table)=true then
   some (.ret 6)
  else
   BU.l0 (x.1,(w64 (x.2.1+1)),x.2.2)
 else
  some (.brk ())
 partial_fixpoint
theorem BU.l0.ws:PC BU.l0 (fun x o=>∀ lo c (Q:EP) (hb:∀ s:Unit,o=Lp.brk s→Q (.exit 0) ⟨[],[]⟩) (hr:∀ (r:Int) (L:AM),o=.ret r→DO Tryz.prog [.tmp 8] (.i64 r) (fun _=>True) .ret L→Q .ret L),AJ Tryz.prog 114 lo c 0 (VQ Q) ⟨[(2,.v (.slice .foreign (x.1.map AV.i64))),(4,.lref 4 0),(9,.v (.i64 x.2.1))],[(4,[.v (.i64 x.2.2.Kind),.v (.i64 x.2.2.Table),.v (.slice .foreign (x.2.2.Kids.map AA.av)),.v (.slice .foreign (x.2.2.Conj.map AB.av)),.v (.bool x.2.2.Hash)])]⟩):=by
 refine BU.l0.partial_correctness _ ?_
 ·intro Sy Rx x o h
  have AGo:AH Sy _:=⟨Rx⟩
  intro lo c Q hb hr
  refine AJ.step mix YZ (by kernel_rfl) ?_
  simp -implicitDefEqProofs only[go_sem,Tryz.f114]
  exact AN
instance BU.l0.w:type_of% (AH.mk BU.l0.ws):=⟨BU.l0.ws⟩
def BU.l1 (x:List Int × Int × AA):Option (Lp (Unit) (Int)) :=
 if(decide (x.2.1<(x.2.2.Conj.length:Int)))=true then
  (AX x.2.2.Conj x.2.1)>>=fun (e22:AB) =>
  (x.2.2.Kids[0]?)>>=fun (e24:AA) =>
  BM e24>>=fun r26 =>
  (x.2.2.Kids[1]?)>>=fun (e28:AA) =>
  BM e28>>=fun r30 =>
  CD (e22,x.1,r26,r30)>>=fun r32 =>
  if(r32 != 0)=true then
   some (.ret r32)
  else
   BU.l1 (x.1,(w64 (x.2.1+1)),x.2.2)
 else
  some (.brk ())
 partial_fixpoint
theorem BU.l1.ws:PC BU.l1 (fun x o=>∀ lo c (Q:EP) (hb:∀ s:Unit,o=Lp.brk s→Q (.exit 2) ⟨[],[]⟩) (hr:∀ (r:Int) (L:AM),o=.ret r→DO Tryz.prog [.tmp 8] (.i64 r) (fun _=>True) .ret L→Q .ret L),AJ Tryz.prog 114 lo c 1 (VQ Q) ⟨[(1,.v (.slice .foreign (x.1.map AV.i64))),(4,.lref 4 0),(10,.v (.i64 x.2.1))],[(4,[.v (.i64 x.2.2.Kind),.v (.i64 x.2.2.Table),.v (.slice .foreign (x.2.2.Kids.map AA.av)),.v (.slice .foreign (x.2.2.Conj.map AB.av)),.v (.bool x.2.2.Hash)])]⟩):=by
 refine BU.l1.partial_correctness _ ?_
 ·intro TE Ro x o h
  have AFz:AH TE _:=⟨Ro⟩
  intro lo c Q hb hr
  refine AJ.step mix YZ (by kernel_rfl) ?_
  simp -implicitDefEqProofs only[go_sem,Tryz.f114]
  exact AN
instance BU.l1.w:type_of% (AH.mk BU.l1.ws):=⟨BU.l1.ws⟩
def BU (x:AA × List Int × List Int × Int):Option (Int) :=
 if(decide (x.1.Kind<0))=true then
  some 4
 else
  if(decide (x.1.Kind > 4))=true then
   some 4
  else
   if(x.1.Kind == 0)=true then
    if x.1.Hash=true then
     some 4
    else
     if(decide ((x.1.Kids.length:Int) > 0))=true then
      some 7
     else
      if(decide ((x.1.Conj.length:Int) > 0))=true then
       some 8
      else
       if(decide (x.1.Table<0))=true then
        some 5
       else
        if(decide (x.1.Table ≥ (x.2.1.length:Int)))=true then
         some 5
        else
         BU.l0 (x.2.2.1,0,x.1)>>=fun (o13:Lp (Unit) (Int))=>match o13 with
         | .brk s16 =>
          some 0
         | .ret r15 =>
          some r15
   else
    if((x.1.Kids.length:Int) != 2)=true then
     some 7
    else
     if((x.1.Conj.length:Int) == 0)=true then
      some 8
     else
      if(decide ((w64 (x.2.2.2+(x.1.Conj.length:Int))) > 64))=true then
       some 8
      else
       if(x.1.Table != 0)=true then
        some 5
       else
        BU.l1 (x.2.1,0,x.1)>>=fun (o35:Lp (Unit) (Int))=>match o35 with
        | .brk s38 =>
         some 0
        | .ret r37 =>
         some r37
instance BU.w:AH BU (fun x r=>Fn Tryz.prog 114 [.agg (AA.C x.1),.slice .foreign (x.2.1.map AV.i64),.slice .foreign (x.2.2.1.map AV.i64),.i64 x.2.2.2] (.i64 r)):=⟨by
 intro x r h
 rw[BU] at h
 try dsimp only
 refine Fn.of_lc mix YZ AHy (by rfl) (flC (AA.flatC _) (flC (AQ _ (fun _=>.atom _) _) (flC (AQ _ (fun _=>.atom _) _) (flC (.atom _) (flN))))) (.atom _) ?_
 simp -implicitDefEqProofs only[go_sem,Tryz.f114]
 exact AN⟩
end
section
@[go_sem] theorem AOB:lrp Tryz.prog 81 14=(10,[]):=by kernel_rfl
theorem AKS:okF Tryz.f81=true:=by kernel_rfl
def Ak.l0 (x:Int × Ba):Option (Lp (Unit) (Int)) :=
 if(decide (x.1<(x.2.Cols.length:Int)))=true then
  (AX x.2.Cols x.1)>>=fun (e3:Int) =>
  if(decide (e3<1))=true then
   some (.ret 12)
  else
   if(decide (e3 > 4))=true then
    some (.ret 12)
   else
    Ak.l0 ((w64 (x.1+1)),x.2)
 else
  some (.brk ())
 partial_fixpoint
theorem Ak.l0.ws:PC Ak.l0 (fun x o=>∀ lo c (Q:EP) (hb:∀ s:Unit,o=Lp.brk s→Q (.exit 0) ⟨[(1,.lref 1 0)],[(1,[.v (.slice .foreign (x.2.Cols.map AV.i64)),.v (.i64 x.2.Root.Kind),.v (.i64 x.2.Root.Table),.v (.slice .foreign (x.2.Root.Kids.map AA.av)),.v (.slice .foreign (x.2.Root.Conj.map AB.av)),.v (.bool x.2.Root.Hash)])]⟩) (hr:∀ (r:Int) (L:AM),o=.ret r→DO Tryz.prog [.tmp 2] (.i64 r) (fun _=>True) .ret L→Q .ret L),AJ Tryz.prog 81 lo c 0 (VQ Q) ⟨[(1,.lref 1 0),(3,.v (.i64 x.1))],[(1,[.v (.slice .foreign (x.2.Cols.map AV.i64)),.v (.i64 x.2.Root.Kind),.v (.i64 x.2.Root.Table),.v (.slice .foreign (x.2.Root.Kids.map AA.av)),.v (.slice .foreign (x.2.Root.Conj.map AB.av)),.v (.bool x.2.Root.Hash)])]⟩):=by
 refine Ak.l0.partial_correctness _ ?_
 ·intro QN Pa x o h
  have AC0:AH QN _:=⟨Pa⟩
  intro lo c Q hb hr
  refine AJ.step mix ABr (by kernel_rfl) ?_
  simp -implicitDefEqProofs only[go_sem,Tryz.f81]
  exact AN
instance Ak.l0.w:type_of% (AH.mk Ak.l0.ws):=⟨Ak.l0.ws⟩
def Ak.l1 (x:List AA × List Int × Int × Int × Ba):Option (Lp (Unit) (Int)) :=
 if(decide (x.2.2.2.1<(x.1.length:Int)))=true then
  (AX x.1 x.2.2.2.1)>>=fun (e14:AA) =>
  BU (e14,x.2.2.2.2.Cols,x.2.1,x.2.2.1)>>=fun r16 =>
  if(r16 != 0)=true then
   some (.ret r16)
  else
   if(e14.Kind == 0)=true then
    (room 8 x.2.1 ([e14.Table]))>>=fun (z20:List Int) =>
    Ak.l1 (x.1,z20,(w64 (x.2.2.1+(e14.Conj.length:Int))),(w64 (x.2.2.2.1+1)),x.2.2.2.2)
   else
    Ak.l1 (x.1,x.2.1,(w64 (x.2.2.1+(e14.Conj.length:Int))),(w64 (x.2.2.2.1+1)),x.2.2.2.2)
 else
  some (.brk ())
 partial_fixpoint
theorem Ak.l1.ws:PC Ak.l1 (fun x o=>∀ lo c (Q:EP) (hb:∀ s:Unit,o=Lp.brk s→Q (.exit 2) ⟨[],[]⟩) (hr:∀ (r:Int) (L:AM),o=.ret r→DO Tryz.prog [.tmp 2] (.i64 r) (fun _=>True) .ret L→Q .ret L),AJ Tryz.prog 81 lo c 1 (VQ Q) ⟨[(1,.lref 1 0),(4,.v (.slice .foreign (x.1.map AA.av))),(5,.own 100500 1 (x.2.1.map AV.i64)),(6,.v (.i64 x.2.2.1)),(7,.v (.i64 x.2.2.2.1))],[(1,[.v (.slice .foreign (x.2.2.2.2.Cols.map AV.i64)),.v (.i64 x.2.2.2.2.Root.Kind),.v (.i64 x.2.2.2.2.Root.Table),.v (.slice .foreign (x.2.2.2.2.Root.Kids.map AA.av)),.v (.slice .foreign (x.2.2.2.2.Root.Conj.map AB.av)),.v (.bool x.2.2.2.2.Root.Hash)])]⟩):=by
 refine Ak.l1.partial_correctness _ ?_
 ·intro QU PZ x o h
  have AEO:AH QU _:=⟨PZ⟩
  intro lo c Q hb hr
  refine AJ.step mix ABr (by kernel_rfl) ?_
  simp -implicitDefEqProofs only[go_sem,Tryz.f81]
  exact AN
instance Ak.l1.w:type_of% (AH.mk Ak.l1.ws):=⟨Ak.l1.ws⟩
def Ak (x:Ba):Option (Int) :=
 if(decide ((x.Cols.length:Int) > 64))=true then
  some 2
 else
  Ak.l0 (0,x)>>=fun (o7:Lp (Unit) (Int))=>match o7 with
  | .brk s10 =>
   CS x.Root>>=fun r11 =>
   Ak.l1 (r11,([]:List Int),0,0,x)>>=fun (o22:Lp (Unit) (Int))=>match o22 with
   | .brk s25 =>
    some 0
   | .ret r24 =>
    some r24
  | .ret r9 =>
   some r9
instance Ak.w:AH Ak (fun x r=>Fn Tryz.prog 81 [.agg (Ba.C x)] (.i64 r)):=⟨by
 intro x r h
 rw[Ak] at h
 try dsimp only
 refine Fn.of_lc mix ABr AKS (by rfl) (flC (Ba.flatC _) (flN)) (.atom _) ?_
 simp -implicitDefEqProofs only[go_sem,Tryz.f81]
 exact AN⟩
end
section
theorem ALc:okF Tryz.f39=true:=by kernel_rfl
def Gr (x:Ba):Option (Bool) :=
 Ak x>>=fun r1 =>
 some (r1 == 0)
instance Gr.w:AH Gr (fun x r=>Fn Tryz.prog 39 [.agg (Ba.C x)] (.bool r)):=⟨by
 intro x r h
 rw[Gr] at h
 try dsimp only
 refine Fn.of_lc mix AMm ALc (by rfl) (flC (Ba.flatC _) (flN)) (.atom _) ?_
 simp -implicitDefEqProofs only[go_sem,Tryz.f39]
 exact AN⟩
end
section
theorem AJi:okF Tryz.f38=true:=by kernel_rfl
def Hw (x:Ba):Option (Bool) :=
 BA (x.Root,601)>>=fun r1 =>
 some (decide (r1≤600))
instance Hw.w:AH Hw (fun x r=>Fn Tryz.prog 38 [.agg (Ba.C x)] (.bool r)):=⟨by
 intro x r h
 rw[Hw] at h
 try dsimp only
 refine Fn.of_lc mix ANW AJi (by rfl) (flC (Ba.flatC _) (flN)) (.atom _) ?_
 simp -implicitDefEqProofs only[go_sem,Tryz.f38]
 exact AN⟩
end
section
def NO (t:BE):AC:=if t.Kind=1 then Cw t.Table else 0#64
theorem Wm (t:BE):EJ t=some (NO t):=by
 unfold EJ NO
 by_cases h:t.Kind=1
 ·rw[if_neg (by simpa using h),if_pos h,JJ _ (by simp)]
  simp -implicitDefEqProofs only[Option.bind_eq_bind,Option.bind_some]
  rw[Gd,Hy,BitVec.or_zero]
 ·rw[if_pos (by simpa using h),if_neg h]
def AB.tabs:AB→AC
 | ⟨_,_,_,a,b,ps⟩=>NO a|||NO b|||tabsL ps
where tabsL:List AB→AC
 | []=>0#64
 | x :: l=>x.tabs|||tabsL l
theorem AGD (p:AB):p.tabs=NO p.A|||NO p.B|||AB.tabs.tabsL p.Parts:=by
 obtain⟨a,b,c,d,e,ps⟩:=p
 simp only[AB.tabs]
theorem Jo {p x:AB} (h:x∈p.Parts):x.size<p.size:=by
 have:=Vm AB.size h
 rw[Jh p];omega
theorem Jv (p:AB):p.Parts.length<p.size:=by
 have:=Nk AB.size Jr p.Parts
 rw[Jh];omega
theorem Ju {t:AA} {p:AB} (h:p∈t.Conj):p.size<t.size:=by
 have:=Vm AB.size h
 rw[EE t];omega
theorem Mz (p:AB):p.size≤1000000000→BY p=some p.tabs:=by
 induction p using AB.induct with
 | h p ih =>
  intro hsz
  have hpl:=Jv p
  have key:=Ic p.Parts (fun i (s:AC)=>BY.l0 (s,(i:Int),p)) (fun s l=>some (s|||AB.tabs.tabsL l)) (fun s=>by
    show BY.l0 _=_
    rw[BY.l0,if_neg (dge (by dsimp only;omega))]
    simp only[AB.tabs.tabsL,BitVec.or_zero])
   (fun i s h ih2=>by
    show BY.l0 _=_
    rw[BY.l0,if_pos (dlt (by dsimp only;omega))]
    dsimp only
    rw[Ag h]
    have hm:=List.getElem_mem h
    have hs:=Jo hm
    simp -implicitDefEqProofs only[Option.bind_eq_bind,Option.bind_some]
    rw[ih _ hm (by omega)]
    simp -implicitDefEqProofs only[Option.bind_some]
    rw[AU (by omega)]
    have:=ih2 (s|||p.Parts[i].tabs)
    rw[this]
    simp only[AB.tabs.tabsL,BitVec.or_assoc]) (NO p.A|||NO p.B)
  rw[BY,Wm,Wm]
  have key':BY.l0 ((NO p.A|||NO p.B),0,p)=_:=key
  simp -implicitDefEqProofs only[Option.bind_eq_bind,Option.bind_some]
  rw[key',AGD];rfl
def AB.cols:AB→List CB
 | ⟨_,_,_,a,b,ps⟩=>(if a.Kind=1 then [⟨a.Table,a.Col⟩] else [])++(if b.Kind=1 then [⟨b.Table,b.Col⟩] else [])++colsL ps
where colsL:List AB→List CB
 | []=>[]
 | x :: l=>x.cols++colsL l
theorem ZS (p:AB):p.cols=(if p.A.Kind=1 then [⟨p.A.Table,p.A.Col⟩] else [])++(if p.B.Kind=1 then [⟨p.B.Table,p.B.Col⟩] else [])++AB.cols.colsL p.Parts:=by
 obtain⟨a,b,c,d,e,ps⟩:=p
 simp only[AB.cols]
theorem Ps (p:AB):p.cols.length≤2 * p.size:=by
 induction p using AB.induct with
 | h p ih =>
  have hl:∀ l:List AB,(∀ x∈l,x.cols.length≤2 * x.size)→(AB.cols.colsL l).length≤2 * (l.map AB.size).sum:=by
   intro l
   induction l with
   | nil=>intro _;simp[AB.cols.colsL]
   | cons x l ih2 =>
    intro h
    have h1:=h x List.mem_cons_self
    have h2:=ih2 fun y hy=>h y (List.mem_cons_of_mem _ hy)
    simp only[AB.cols.colsL,List.length_append,List.map_cons,List.sum_cons];omega
  have:=hl p.Parts ih
  rw[ZS,Jh,List.length_append,List.length_append]
  have e1:(if p.A.Kind=1 then [(⟨p.A.Table,p.A.Col⟩:CB)] else []).length≤1:=by split <;> simp
  have e2:(if p.B.Kind=1 then [(⟨p.B.Table,p.B.Col⟩:CB)] else []).length≤1:=by split <;> simp
  omega
theorem Sn (p:AB):p.size≤1000000000→BR p=some p.cols:=by
 induction p using AB.induct with
 | h p ih =>
  intro hsz
  have hpl:=Jv p
  have hcl:=Ps p
  have key:∀ acc0:List CB,acc0.length≤2→BR.l0 (acc0,0,p)=some (acc0++AB.cols.colsL p.Parts):=by
   intro acc0 h0
   have:=Fy p.Parts (fun i acc=>acc.length≤2+2 * ((p.Parts.take i).map AB.size).sum) (fun i (acc:List CB)=>BR.l0 (acc,(i:Int),p)) (fun acc l=>some (acc++AB.cols.colsL l)) (fun acc _=>by
     show BR.l0 _=_
     rw[BR.l0,if_neg (dge (by dsimp only;omega))]
     simp only[AB.cols.colsL,List.append_nil])
    (fun i acc h ha ih2=>by
     show BR.l0 _=_
     rw[BR.l0,if_pos (dlt (by dsimp only;omega))]
     dsimp only
     rw[Ag h]
     have hm:=List.getElem_mem h
     have hs:=Jo hm
     have hc:=Ps p.Parts[i]
     have htake:((p.Parts.take i).map AB.size).sum+p.Parts[i].size≤(p.Parts.map AB.size).sum:=by
      have e:p.Parts=p.Parts.take i++p.Parts[i] :: p.Parts.drop (i+1):=by rw[← List.drop_eq_getElem_cons h,List.take_append_drop]
      conv=>rhs;rw[e]
      simp only[List.map_append,List.map_cons,List.sum_append,List.sum_cons];omega
     have hps:=Jh p
     simp -implicitDefEqProofs only[Option.bind_eq_bind,Option.bind_some]
     rw[ih _ hm (by omega)]
     simp -implicitDefEqProofs only[Option.bind_some]
     rw[Bp (by omega)]
     simp -implicitDefEqProofs only[Option.bind_some]
     rw[AU (by omega)]
     have:=ih2 (acc++p.Parts[i].cols) (by
      rw[List.take_succ_eq_append_getElem h,List.map_append,List.sum_append,List.length_append]
      simp only[List.map_cons,List.map_nil,List.sum_cons,List.sum_nil];omega)
     rw[this]
     simp only[AB.cols.colsL,List.append_assoc]) 0 acc0 (Nat.zero_le _) (by simpa using h0)
   rw[List.drop_zero] at this
   exact this
  rw[BR,ZS]
  by_cases hA:p.A.Kind=1
  ·rw[if_pos (by simpa using hA),if_pos hA,Bp (by simp)]
   simp -implicitDefEqProofs only[Option.bind_eq_bind,Option.bind_some,List.nil_append]
   by_cases hB:p.B.Kind=1
   ·rw[if_pos (by simpa using hB),if_pos hB,Bp (by simp)]
    simp -implicitDefEqProofs only[Option.bind_some]
    rw[key _ (by simp)];rfl
   ·rw[if_neg (by simpa using hB),if_neg hB,key _ (by simp)]
    simp
  ·rw[if_neg (by simpa using hA),if_neg hA]
   by_cases hB:p.B.Kind=1
   ·rw[if_pos (by simpa using hB),if_pos hB,Bp (by simp)]
    simp -implicitDefEqProofs only[Option.bind_eq_bind,Option.bind_some,List.nil_append]
    rw[key _ (by simp)];rfl
   ·rw[if_neg (by simpa using hB),if_neg hB,key _ (by simp)]
    simp
def AA.seen:AA→AC
 | ⟨k,t,ks,_,_⟩=>if k=0 then Cw t else if k=3∨k=4 then seen1 ks else seenL ks
where
 seen1:List AA→AC
 | []=>0#64
 | x :: _=>x.seen
 seenL:List AA→AC
 | []=>0#64
 | x :: l=>x.seen|||seenL l
theorem AAr (t:AA):t.seen=if t.Kind=0 then Cw t.Table else if t.Kind=3∨t.Kind=4 then AA.seen.seen1 t.Kids else AA.seen.seenL t.Kids:=by
 obtain⟨a,b,ks,c,d⟩:=t
 simp only[AA.seen]
theorem PL (t:AA):t.size≤1000000000→BM t=some t.seen:=by
 induction t using AA.induct with
 | h t ih =>
  intro hsz
  have hkl:=MQ t
  rw[BM,AAr]
  by_cases h0:t.Kind=0
  ·rw[if_pos (by simpa using h0),if_pos h0,JJ _ (by simp)]
   simp -implicitDefEqProofs only[Option.bind_eq_bind,Option.bind_some]
   rw[Gd,Hy,BitVec.or_zero]
  ·rw[if_neg (by simpa using h0),if_neg h0]
   by_cases h34:t.Kind=3∨t.Kind=4
   ·rw[if_pos h34]
    have key:∀ n i s,t.Kids.length - i=n→1≤i→i≤t.Kids.length→BM.l0 (s,(i:Int),t)=some s:=by
     intro n
     induction n with
     | zero =>
      intro i s h1 h2 h3
      obtain rfl:i=t.Kids.length:=by omega
      rw[BM.l0,if_neg (dge (by dsimp only;omega))]
     | succ n ih2 =>
      intro i s h1 h2 h3
      have hi:i<t.Kids.length:=by omega
      rw[BM.l0,if_pos (dlt (by dsimp only;omega))]
      dsimp only
      rw[if_neg (by simp;omega),AU (by omega),ih2 (i+1) s (by omega) (by omega) (by omega)]
      rcases h34 with h | h
      ·rw[if_neg (by simp[h])]
      ·rw[if_pos (by simp[h]),if_neg (by simp[h])]
    cases hk:t.Kids with
    | nil =>
     rw[BM.l0,if_neg (by simp[hk])];rfl
    | cons x l =>
     have hx:x∈t.Kids:=by rw[hk];simp
     have hxs:=Cc hx
     rw[BM.l0,if_pos (dlt (by dsimp only;rw[hk];simp only[List.length_cons];omega))]
     dsimp only
     have g0:AX t.Kids 0=some x:=by rw[hk];rfl
     rw[if_pos (by decide),g0]
     simp -implicitDefEqProofs only[Option.bind_eq_bind,Option.bind_some]
     rw[ih x hx (by omega)]
     simp -implicitDefEqProofs only[Option.bind_some]
     have w1:w64 (0+1)=((1:Nat):Int):=by decide
     rw[w1,key (t.Kids.length - 1) 1 _ (by omega) (by omega) (by rw[hk];simp)]
     simp only[AA.seen.seen1,BitVec.zero_or];rfl
   ·rw[if_neg h34]
    have key:=Ic t.Kids (fun i (s:AC)=>BM.l0 (s,(i:Int),t)) (fun s l=>some (s|||AA.seen.seenL l)) (fun s=>by
      show BM.l0 _=_
      rw[BM.l0,if_neg (dge (by dsimp only;omega))]
      simp only[AA.seen.seenL,BitVec.or_zero])
     (fun i s h ih2=>by
      show BM.l0 _=_
      rw[BM.l0,if_pos (dlt (by dsimp only;omega))]
      dsimp only
      have hm:=List.getElem_mem h
      have hs:=Cc hm
      rw[Ag h,AU (by omega)]
      simp -implicitDefEqProofs only[Option.bind_eq_bind,Option.bind_some]
      rw[ih _ hm (by omega)]
      simp -implicitDefEqProofs only[Option.bind_some]
      have:=ih2 (s|||t.Kids[i].seen)
      rw[this,if_pos (show (t.Kind != 3)=true by simp;omega),if_pos (show (t.Kind != 4)=true by simp;omega)]
      simp only[AA.seen.seenL,BitVec.or_assoc,ite_self]) 0#64
    have key':BM.l0 (0#64,0,t)=_:=key
    rw[key']
    simp -implicitDefEqProofs only[Option.bind_eq_bind,Option.bind_some,BitVec.zero_or]
theorem CI {α:Type} {c:Prop} [Decidable c] {x y:Option α} (h:∃ b,x=some b) (k:∃ b,y=some b):∃ b,(if c then x else y)=some b:=by
 split
 ·exact h
 ·exact k
theorem MT (t:BE):∃ b,Ds t=some b:=by
 unfold Ds Hn
 repeat' first | exact⟨_,rfl⟩ | apply CI | (simp -implicitDefEqProofs only[Option.bind_eq_bind,Option.bind_some])
 all_goals (split <;> exact⟨_,rfl⟩)
theorem Xd (p:AB):p.size≤1000000000→∀ d:Int,1≤d→d≤5→∃ b,Co (p,d)=some b:=by
 induction p using AB.induct with
 | h p ih =>
  intro hsz d hd1 hd2
  have hpl:=Jv p
  by_cases h4:d > 4
  ·rw[Co,if_pos (by simpa using h4)];exact⟨_,rfl⟩
  ·have key:∀ n i,p.Parts.length - i=n→i≤p.Parts.length→∃ o,Co.l0 (d,(i:Int),p)=some o:=by
    intro n
    induction n with
    | zero =>
     intro i h1 h2
     obtain rfl:i=p.Parts.length:=by omega
     rw[Co.l0,if_neg (dge (by dsimp only;omega))];exact⟨_,rfl⟩
    | succ n ih2 =>
     intro i h1 h2
     have hi:i<p.Parts.length:=by omega
     rw[Co.l0,if_pos (dlt (by dsimp only;omega))]
     dsimp only
     have hm:=List.getElem_mem hi
     have hs:=Jo hm
     rw[Ag hi,Ge (by omega) (by omega)]
     obtain⟨b,hb⟩:=ih _ hm (by omega) (d+1) (by omega) (by omega)
     simp -implicitDefEqProofs only[Option.bind_eq_bind,Option.bind_some]
     rw[hb]
     simp -implicitDefEqProofs only[Option.bind_some]
     split
     ·rw[AU (by omega)];exact ih2 (i+1) (by omega) (by omega)
     ·exact⟨_,rfl⟩
   obtain⟨o,ho⟩:=key p.Parts.length 0 (by omega) (by omega)
   rw[show ((0:Nat):Int)=0 from rfl] at ho
   obtain⟨a,ha⟩:=MT p.A
   obtain⟨b,hb⟩:=MT p.B
   rw[Co]
   dsimp only
   rw[ho,ha,hb]
   simp -implicitDefEqProofs only[Option.bind_eq_bind,Option.bind_some]
   cases o <;> dsimp only <;> (repeat' first | exact⟨_,rfl⟩ | apply CI)
theorem Th (p:AB) (h:p.size≤1000000000):∃ b,GB p=some b:=by
 obtain⟨b,hb⟩:=Xd p h 1 (by omega) (by omega)
 unfold GB
 rw[hb];exact⟨b,rfl⟩
end
section
theorem AE0 {t:AA} (h:t.Kids.length=2):∃ x y,t.Kids=[x,y]:=by
 match hk:t.Kids with
 | [x,y]=>exact⟨x,y,rfl⟩
 | []=>rw[hk] at h;cases h
 | [_]=>rw[hk] at h;cases h
 | _ :: _ :: _ :: _=>rw[hk] at h;simp at h
structure Zx (cols:List Int) (l r:AC) (p:AB):Prop where
 right:GB p=some true
 col:∀ c∈p.cols,(AY l c.e0=true∨AY r c.e0=true)∧∃ n,AX cols c.e0=some n∧c.e1<n
 left:p.tabs&&&l≠0#64
 rt:p.tabs&&&r≠0#64
theorem XX (p:AB) (cols:List Int) (l r:AC) (hsz:p.size≤1000000) (hc:∀ n,AY l n=true∨AY r n=true→∃ x,AX cols n=some x):∃ e,CD (p,cols,l,r)=some e∧(e=0→Zx cols l r p):=by
 unfold CD
 dsimp only
 obtain⟨b,hb⟩:=Th p (by omega)
 rw[hb]
 simp -implicitDefEqProofs only[Option.bind_eq_bind,Option.bind_some]
 cases b with
 | false=>rw[if_neg (by decide)];exact⟨9,rfl,fun h=>by cases h⟩
 | true =>
  rw[if_pos rfl,Sn p (by omega)]
  simp -implicitDefEqProofs only[Option.bind_some]
  have hcl:=Ps p
  have key:∀ n i,p.cols.length - i=n→i≤p.cols.length→CD.l0 (cols,l,r,p.cols,(i:Int),p)=some (.ret 10)∨(CD.l0 (cols,l,r,p.cols,(i:Int),p)=some (.brk ())∧∀ j (h:j<p.cols.length),i≤j→(AY l p.cols[j].e0=true∨AY r p.cols[j].e0=true)∧∃ n,AX cols p.cols[j].e0=some n∧p.cols[j].e1<n):=by
   intro n
   induction n with
   | zero =>
    intro i h1 h2
    obtain rfl:i=p.cols.length:=by omega
    rw[CD.l0,if_neg (dge (by dsimp only;omega))]
    exact .inr ⟨rfl,fun j h h'=>by omega⟩
   | succ n ih =>
    intro i h1 h2
    have hi:i<p.cols.length:=by omega
    rw[CD.l0,if_pos (dlt (by dsimp only;omega))]
    dsimp only
    rw[Ag hi,AU (by omega)]
    simp -implicitDefEqProofs only[Option.bind_eq_bind,Option.bind_some,Eb]
    have ih:=ih (i+1) (by omega) (by omega)
    have more:∀ (h:AY l p.cols[i].e0=true∨AY r p.cols[i].e0=true) (x:Int),AX cols p.cols[i].e0=some x→(if(decide (p.cols[i].e1 ≥ x))=true then some (Lp.ret 10) else CD.l0 (cols,l,r,p.cols,((i+1:Nat):Int),p))=some (.ret 10)∨((if(decide (p.cols[i].e1 ≥ x))=true then some (Lp.ret 10) else CD.l0 (cols,l,r,p.cols,((i+1:Nat):Int),p))=some (.brk ())∧∀ j (h:j<p.cols.length),i≤j→(AY l p.cols[j].e0=true∨AY r p.cols[j].e0=true)∧∃ n,AX cols p.cols[j].e0=some n∧p.cols[j].e1<n):=by
     intro h x hx
     by_cases hge:p.cols[i].e1 ≥ x
     ·rw[if_pos (by simpa using hge)];exact .inl rfl
     ·rw[if_neg (by simpa using hge)]
      rcases ih with ih | ⟨ih1,ih2⟩
      ·exact .inl ih
      ·refine .inr ⟨ih1,fun j hj hij=>?_⟩
       by_cases e:j=i
       ·subst e;exact⟨h,x,hx,by omega⟩
       ·exact ih2 j hj (by omega)
    cases hl:AY l p.cols[i].e0 with
    | true =>
     obtain⟨x,hx⟩:=hc _ (.inl hl)
     rw[if_pos rfl,hx]
     simp -implicitDefEqProofs only[Option.bind_some]
     exact more (.inl hl) x hx
    | false =>
     rw[if_neg (by decide)]
     cases hr:AY r p.cols[i].e0 with
     | true =>
      obtain⟨x,hx⟩:=hc _ (.inr hr)
      rw[if_pos rfl,hx]
      simp -implicitDefEqProofs only[Option.bind_some]
      exact more (.inr hr) x hx
     | false=>rw[if_neg (by decide)];exact .inl rfl
  have h0:=key p.cols.length 0 (by omega) (by omega)
  rw[show ((0:Nat):Int)=0 from rfl] at h0
  rcases h0 with h0 | ⟨h0,h1⟩
  ·rw[h0];exact⟨10,rfl,fun h=>by cases h⟩
  ·rw[h0,Mz p (by omega)]
   simp -implicitDefEqProofs only[Option.bind_some]
   by_cases hl:p.tabs&&&l=0#64
   ·rw[if_pos (by simpa using hl)];exact⟨11,rfl,fun h=>by cases h⟩
   ·rw[if_neg (by simpa using hl)]
    by_cases hr:p.tabs&&&r=0#64
    ·rw[if_pos (by simpa using hr)];exact⟨11,rfl,fun h=>by cases h⟩
    ·rw[if_neg (by simpa using hr)]
     refine⟨0,rfl,fun _=>⟨hb,fun c hc=>?_,hl,hr⟩⟩
     obtain⟨j,hj,rfl⟩:=List.getElem_of_mem hc
     exact h1 j hj (Nat.zero_le _)
inductive Kz (cols:List Int) (t:AA):Prop
 | leaf (hk:t.Kind=0) (hks:t.Kids=[]) (hc:t.Conj=[]) (hh:t.Hash=false) (h0:0≤t.Table) (h1:t.Table<(cols.length:Int))
 | op (a b:AA) (hk1:1≤t.Kind) (hk2:t.Kind≤4) (hks:t.Kids=[a,b]) (hc:t.Conj≠[]) (ht:t.Table=0) (hp:∀ p∈t.Conj,Zx cols a.seen b.seen p)
theorem Wa (t:AA):∀ n,AY t.seen n=true→n∈Ad t.tour:=by
 have orI:∀ (s u:AC) n,AY (s|||u) n=true→AY s n=true∨AY u n=true:=by
  intro s u n h
  unfold AY at *
  simp only[Bool.and_eq_true,BitVec.getLsbD_or,Bool.or_eq_true] at *
  obtain⟨h1,h2 | h2⟩:=h
  ·exact .inl ⟨h1,h2⟩
  ·exact .inr ⟨h1,h2⟩
 induction t using AA.induct with
 | h t ih =>
  intro n hn
  have up:∀ y∈t.Kids,n∈Ad y.tour→n∈Ad t.tour:=by
   intro y hy h
   unfold Ad at *
   obtain⟨z,hz,e⟩:=List.mem_map.1 h
   obtain⟨h1,h2⟩:=List.mem_filter.1 hz
   exact List.mem_map.2 ⟨z,List.mem_filter.2 ⟨YH hy z h1,h2⟩,e⟩
  rw[AAr] at hn
  by_cases h0:t.Kind=0
  ·rw[if_pos h0] at hn
   unfold AY at hn
   simp only[Bool.and_eq_true,decide_eq_true_eq] at hn
   rw[Sh] at hn
   simp only[Bool.and_eq_true,decide_eq_true_eq] at hn
   have:t.Table=n:=by omega
   exact List.mem_map.2 ⟨t,List.mem_filter.2 ⟨Ww t,by simp[h0]⟩,this⟩
  ·rw[if_neg h0] at hn
   have z0:AY 0#64 n=false:=by unfold AY;simp
   by_cases h34:t.Kind=3∨t.Kind=4
   ·rw[if_pos h34] at hn
    cases hk:t.Kids with
    | nil=>rw[hk] at hn;simp only[AA.seen.seen1,z0] at hn;cases hn
    | cons x l =>
     rw[hk] at hn
     simp only[AA.seen.seen1] at hn
     have hx:x∈t.Kids:=by rw[hk];simp
     exact up x hx (ih x hx n hn)
   ·rw[if_neg h34] at hn
    have:∀ l:List AA,(∀ y∈l,y∈t.Kids)→AY (AA.seen.seenL l) n=true→n∈Ad t.tour:=by
     intro l
     induction l with
     | nil=>intro _ h;simp only[AA.seen.seenL,z0] at h;cases h
     | cons x l ih2 =>
      intro hl h
      simp only[AA.seen.seenL] at h
      rcases orI _ _ _ h with h | h
      ·exact up x (hl x List.mem_cons_self) (ih x (hl x List.mem_cons_self) n h)
      ·exact ih2 (fun y hy=>hl y (List.mem_cons_of_mem _ hy)) h
    exact this t.Kids (fun y hy=>hy) hn
theorem Yz (t:AA) (cols came:List Int) (conjs:Nat) (hsz:t.size≤1000000) (hcm:came.length≤1000000) (hcj:conjs≤1000000) (hk:∀ y∈t.Kids,∀ n∈Ad y.tour,0≤n∧n<(cols.length:Int)):∃ e,BU (t,cols,came,(conjs:Int))=some e∧(e=0→Kz cols t∧(t.Kind=0→t.Table ∉ came)):=by
 have hcl:=Kc t
 unfold BU
 dsimp only
 by_cases k0:t.Kind<0
 ·rw[if_pos (by simpa using k0)];exact⟨4,rfl,fun h=>by cases h⟩
 rw[if_neg (by simpa using k0)]
 by_cases k4:t.Kind > 4
 ·rw[if_pos (by simpa using k4)];exact⟨4,rfl,fun h=>by cases h⟩
 rw[if_neg (by simpa using k4)]
 by_cases kz:t.Kind=0
 ·rw[if_pos (by simpa using kz)]
  by_cases hh:t.Hash=true
  ·rw[if_pos hh];exact⟨4,rfl,fun h=>by cases h⟩
  rw[if_neg hh]
  by_cases hks:t.Kids=[]
  ·rw[if_neg (by simp[hks])]
   by_cases hcs:t.Conj=[]
   ·rw[if_neg (by simp[hcs])]
    by_cases h0:t.Table<0
    ·rw[if_pos (by simpa using h0)];exact⟨5,rfl,fun h=>by cases h⟩
    rw[if_neg (by simpa using h0)]
    by_cases h1:t.Table ≥ (cols.length:Int)
    ·rw[if_pos (by simpa using h1)];exact⟨5,rfl,fun h=>by cases h⟩
    rw[if_neg (by simpa using h1)]
    have key:∀ n i,came.length - i=n→i≤came.length→BU.l0 (came,(i:Int),t)=some (.ret 6)∨(BU.l0 (came,(i:Int),t)=some (.brk ())∧∀ j (h:j<came.length),i≤j→came[j]≠t.Table):=by
     intro n
     induction n with
     | zero =>
      intro i h1 h2
      obtain rfl:i=came.length:=by omega
      rw[BU.l0,if_neg (dge (by dsimp only;omega))]
      exact .inr ⟨rfl,fun j h h'=>by omega⟩
     | succ n ih =>
      intro i h1 h2
      have hi:i<came.length:=by omega
      rw[BU.l0,if_pos (dlt (by dsimp only;omega))]
      dsimp only
      rw[Ag hi,AU (by omega)]
      simp -implicitDefEqProofs only[Option.bind_eq_bind,Option.bind_some]
      by_cases e:came[i]=t.Table
      ·rw[if_pos (by simpa using e)];exact .inl rfl
      ·rw[if_neg (by simpa using e)]
       rcases ih (i+1) (by omega) (by omega) with ih | ⟨ih1,ih2⟩
       ·exact .inl ih
       ·refine .inr ⟨ih1,fun j hj hij=>?_⟩
        by_cases ej:j=i
        ·subst ej;exact e
        ·exact ih2 j hj (by omega)
    have h2:=key came.length 0 (by omega) (by omega)
    rw[show ((0:Nat):Int)=0 from rfl] at h2
    rcases h2 with h2 | ⟨h2,h3⟩
    ·rw[h2];exact⟨6,rfl,fun h=>by cases h⟩
    ·rw[h2]
     refine⟨0,rfl,fun _=>⟨.leaf kz hks hcs (by simpa using hh) (by omega) (by omega),fun _ hm=>?_⟩⟩
     obtain⟨j,hj,e⟩:=List.getElem_of_mem hm
     exact h3 j hj (Nat.zero_le _) e
   ·rw[if_pos (by simp;exact List.length_pos_iff.2 hcs)];exact⟨8,rfl,fun h=>by cases h⟩
  ·rw[if_pos (by simp;exact List.length_pos_iff.2 hks)];exact⟨7,rfl,fun h=>by cases h⟩
 rw[if_neg (by simpa using kz)]
 by_cases h2:t.Kids.length=2
 ·obtain⟨a,b,hab⟩:=AE0 h2
  rw[if_neg (by simp[h2])]
  by_cases hcs:t.Conj=[]
  ·rw[if_pos (by simp[hcs])];exact⟨8,rfl,fun h=>by cases h⟩
  have hcp:=List.length_pos_iff.2 hcs
  rw[if_neg (by simp;omega)]
  rw[Ge (by omega) (by omega)]
  by_cases h64:(conjs:Int)+(t.Conj.length:Int) > 64
  ·rw[if_pos (by simpa using h64)];exact⟨8,rfl,fun h=>by cases h⟩
  rw[if_neg (by simpa using h64)]
  by_cases ht:t.Table=0
  ·rw[if_neg (by simpa using ht)]
   have ha:a∈t.Kids:=by rw[hab];simp
   have hb:b∈t.Kids:=by rw[hab];simp
   have has:=Cc ha
   have hbs:=Cc hb
   have k0':t.Kids[0]?=some a:=by rw[hab];rfl
   have k1':t.Kids[1]?=some b:=by rw[hab];rfl
   have hidx:∀ n,AY a.seen n=true∨AY b.seen n=true→∃ x,AX cols n=some x:=by
    intro n hn
    have:0≤n∧n<(cols.length:Int):=hn.elim (fun h=>hk a ha n (Wa a n h)) (fun h=>hk b hb n (Wa b n h))
    obtain⟨k,rfl⟩:∃ k:Nat,n=k:=⟨n.toNat,by omega⟩
    exact⟨_,Ag (by omega)⟩
   have key:∀ n i,t.Conj.length - i=n→i≤t.Conj.length→∃ o,BU.l1 (cols,(i:Int),t)=some o∧((∃ e,o=.ret e∧e≠0)∨(o=.brk ()∧∀ j (h:j<t.Conj.length),i≤j→Zx cols a.seen b.seen t.Conj[j])):=by
    intro n
    induction n with
    | zero =>
     intro i h1 h2
     obtain rfl:i=t.Conj.length:=by omega
     rw[BU.l1,if_neg (dge (by dsimp only;omega))]
     exact⟨_,rfl,.inr ⟨rfl,fun j h h'=>by omega⟩⟩
    | succ n ih =>
     intro i h1 h2
     have hi:i<t.Conj.length:=by omega
     have hps:=Ju (List.getElem_mem hi)
     rw[BU.l1,if_pos (dlt (by dsimp only;omega))]
     dsimp only
     rw[Ag hi,k0',k1',AU (by omega)]
     simp -implicitDefEqProofs only[Option.bind_eq_bind,Option.bind_some]
     rw[PL a (by omega),PL b (by omega)]
     simp -implicitDefEqProofs only[Option.bind_some]
     obtain⟨e,he,h0⟩:=XX t.Conj[i] cols a.seen b.seen (by omega) hidx
     rw[he]
     simp -implicitDefEqProofs only[Option.bind_some]
     by_cases ez:e=0
     ·rw[if_neg (by simpa using ez)]
      obtain⟨o,ho,hh⟩:=ih (i+1) (by omega) (by omega)
      refine⟨o,ho,hh.imp id fun ⟨e1,e2⟩=>⟨e1,fun j hj hij=>?_⟩⟩
      by_cases ej:j=i
      ·subst ej;exact h0 ez
      ·exact e2 j hj (by omega)
     ·rw[if_pos (by simpa using ez)]
      exact⟨_,rfl,.inl ⟨e,rfl,ez⟩⟩
   obtain⟨o,ho,hh⟩:=key t.Conj.length 0 (by omega) (by omega)
   rw[show ((0:Nat):Int)=0 from rfl] at ho
   rw[ho]
   rcases hh with⟨e,rfl,he⟩|⟨rfl,hall⟩
   ·exact⟨e,rfl,fun h=>absurd h he⟩
   ·refine⟨0,rfl,fun _=>⟨.op a b (by omega) (by omega) hab hcs ht (fun p hp=>?_),fun h=>absurd h kz⟩⟩
    obtain⟨j,hj,rfl⟩:=List.getElem_of_mem hp
    exact hall j hj (Nat.zero_le _)
  ·rw[if_pos (by simpa using ht)];exact⟨5,rfl,fun h=>by cases h⟩
 ·rw[if_pos (by simp;omega)];exact⟨7,rfl,fun h=>by cases h⟩
def Dn (l:List AA):Nat:=(l.map fun y=>y.Conj.length).sum
theorem HP (l l':List AA):Dn (l++l')=Dn l+Dn l':=by unfold Dn;rw[List.map_append,List.sum_append]
theorem Ny (x:AA) (l:List AA):Dn (x :: l)=x.Conj.length+Dn l:=rfl
theorem Ld (t:AA):Dn t.tour≤t.size:=by
 induction t using AA.induct with
 | h t ih =>
  rw[Db,HP,EE]
  have hl:∀ l:List AA,(∀ y∈l,Dn y.tour≤y.size)→Dn (l.flatMap AA.tour)≤(l.map AA.size).sum:=by
   intro l
   induction l with
   | nil=>intro _;simp[Dn]
   | cons y l ih2 =>
    intro h
    rw[List.flatMap_cons,HP,List.map_cons,List.sum_cons]
    have h1:=h y List.mem_cons_self
    have h2:=ih2 fun z hz=>h z (List.mem_cons_of_mem _ hz)
    omega
  have h1:=hl t.Kids ih
  have h2:=Nk AB.size Jr t.Conj
  have h3:Dn [t]=t.Conj.length:=by simp[Dn]
  omega
theorem Ct (l l':List AA):Ad (l++l')=Ad l++Ad l':=by unfold Ad;rw[List.filter_append,List.map_append]
theorem AAF {cols:List Int} {l:List AA} (h:∀ y∈l,Kz cols y):∀ n∈Ad l,0≤n∧n<(cols.length:Int):=by
 intro n hn
 obtain⟨y,hy,rfl⟩:=List.mem_map.1 hn
 obtain⟨h1,h2⟩:=List.mem_filter.1 hy
 have hk:y.Kind=0:=by simpa using h2
 cases h y h1 with
 | leaf _ _ _ _ h0 h1=>exact⟨h0,h1⟩
 | op a b h3=>omega
theorem ACb (q:Ba) (all:List AA) (hlen:all.length≤1000) (hsz:∀ y∈all,y.size≤1000):∀ (t:AA) (i:Nat) (came:List Int) (conjs:Nat) (rest:List AA),all.drop i=t.tour++rest→came.length≤i→conjs+Dn (all.drop i)≤1000→came.Nodup →
  (∃ e,e≠0∧Ak.l1 (all,came,(conjs:Int),(i:Int),q)=some (.ret e)) ∨
  (Ak.l1 (all,came,(conjs:Int),(i:Int),q)=Ak.l1 (all,came++Ad t.tour,((conjs+Dn t.tour:Nat):Int),((i+t.tour.length:Nat):Int),q)∧(∀ y∈t.tour,Kz q.Cols y)∧(came++Ad t.tour).Nodup):=by
 intro t
 induction t using AA.induct with
 | h t ih =>
  intro i came conjs rest hdrop hcl hcj hnd
  -- the kids
  have kids:∀ (ks:List AA),(∀ y∈ks,y∈t.Kids)→∀ (i:Nat) (came:List Int) (conjs:Nat) (rest:List AA),all.drop i=ks.flatMap AA.tour++rest→came.length≤i→conjs+Dn (all.drop i)≤1000→came.Nodup →
    (∃ e,e≠0∧Ak.l1 (all,came,(conjs:Int),(i:Int),q)=some (.ret e)) ∨
    (Ak.l1 (all,came,(conjs:Int),(i:Int),q)=Ak.l1 (all,came++Ad (ks.flatMap AA.tour),((conjs+Dn (ks.flatMap AA.tour):Nat):Int),((i+(ks.flatMap AA.tour).length:Nat):Int),q)∧(∀ y∈ks.flatMap AA.tour,Kz q.Cols y)∧(came++Ad (ks.flatMap AA.tour)).Nodup):=by
   intro ks
   induction ks with
   | nil =>
    intro _ i came conjs rest _ _ _ hnd
    refine .inr ⟨?_,fun y hy=>by simp at hy,by simpa [Ad] using hnd⟩
    simp[Ad,Dn]
   | cons k ks ih2 =>
    intro hks i came conjs rest hdrop hcl hcj hnd
    rw[List.flatMap_cons,List.append_assoc] at hdrop
    rcases ih k (hks k List.mem_cons_self) i came conjs _ hdrop hcl hcj hnd with h | ⟨h1,h2,h3⟩
    ·exact .inl h
    ·have hd2:all.drop (i+k.tour.length)=ks.flatMap AA.tour++rest:=by
      rw[← List.drop_drop,hdrop,List.drop_left]
     have hc2:(came++Ad k.tour).length≤i+k.tour.length:=by rw[List.length_append];have:=MZ k.tour;omega
     have hj2:conjs+Dn k.tour+Dn (all.drop (i+k.tour.length))≤1000:=by
      rw[hdrop,HP] at hcj;rw[hd2];omega
     rcases ih2 (fun y hy=>hks y (List.mem_cons_of_mem _ hy)) (i+k.tour.length) (came++Ad k.tour) (conjs+Dn k.tour) rest hd2 hc2 hj2 h3 with⟨e,he,h⟩|⟨g1,g2,g3⟩
     ·exact .inl ⟨e,he,h1.trans h⟩
     ·refine .inr ⟨?_,fun y hy=>?_,?_⟩
      ·rw[h1,g1,List.flatMap_cons,Ct,HP,List.length_append,List.append_assoc,Nat.add_assoc conjs,Nat.add_assoc i]
      ·rw[List.flatMap_cons] at hy
       exact(List.mem_append.1 hy).elim (h2 y) (g2 y)
      ·rw[List.flatMap_cons,Ct,← List.append_assoc];exact g3
  rw[Db,List.append_assoc] at hdrop
  rcases kids t.Kids (fun y hy=>hy) i came conjs _ hdrop hcl hcj hnd with h | ⟨h1,h2,h3⟩
  ·exact .inl h
  ·have hd2:all.drop (i+(t.Kids.flatMap AA.tour).length)=[t]++rest:=by rw[← List.drop_drop,hdrop,List.drop_left]
   have hlt:i+(t.Kids.flatMap AA.tour).length<all.length:=by
    rcases Nat.lt_or_ge (i+(t.Kids.flatMap AA.tour).length) all.length with h | h
    ·exact h
    ·rw[List.drop_eq_nil_of_le h] at hd2;cases hd2
   have hget:all[i+(t.Kids.flatMap AA.tour).length]=t:=by
    have:=List.drop_eq_getElem_cons hlt
    rw[hd2] at this
    injection this with h _
    exact h.symm
   have htm:t∈all:=by rw[← hget];exact List.getElem_mem hlt
   have hts:=hsz t htm
   have hj2:conjs+Dn (t.Kids.flatMap AA.tour)+t.Conj.length≤1000:=by
    rw[hdrop,HP,List.cons_append,List.nil_append,Ny] at hcj;omega
   have hc2:(came++Ad (t.Kids.flatMap AA.tour)).length≤i+(t.Kids.flatMap AA.tour).length:=by rw[List.length_append];have:=MZ (t.Kids.flatMap AA.tour);omega
   obtain⟨e,he,h0⟩:=Yz t q.Cols (came++Ad (t.Kids.flatMap AA.tour)) (conjs+Dn (t.Kids.flatMap AA.tour)) (by omega) (by omega) (by omega) (fun y hy n hn=>AAF (cols:=q.Cols) (l:=y.tour) (fun z hz=>h2 z (List.mem_flatMap.2 ⟨y,hy,hz⟩)) n hn)
   have hstep:Ak.l1 (all,came++Ad (t.Kids.flatMap AA.tour),((conjs+Dn (t.Kids.flatMap AA.tour):Nat):Int),((i+(t.Kids.flatMap AA.tour).length:Nat):Int),q) =
     (if(e != 0)=true then some (.ret e) else Ak.l1 (all,came++Ad t.tour,((conjs+Dn t.tour:Nat):Int),((i+t.tour.length:Nat):Int),q)):=by
    rw[Ak.l1,if_pos (dlt (by dsimp only;omega))]
    dsimp only
    rw[Ag hlt,hget]
    simp -implicitDefEqProofs only[Option.bind_eq_bind,Option.bind_some]
    rw[he]
    simp -implicitDefEqProofs only[Option.bind_some]
    have w1:w64 (((conjs+Dn (t.Kids.flatMap AA.tour):Nat):Int)+(t.Conj.length:Int))=((conjs+Dn t.tour:Nat):Int):=by
     rw[Ge (by omega) (by omega),Db t,HP]
     have:Dn [t]=t.Conj.length:=by simp[Dn]
     omega
    have w2:w64 (((i+(t.Kids.flatMap AA.tour).length:Nat):Int)+1)=((i+t.tour.length:Nat):Int):=by
     rw[AU (by omega),Db t,List.length_append];simp only[List.length_cons,List.length_nil];omega
    rw[w1,w2]
    by_cases ez:e=0
    ·have e1:¬ (e != 0)=true:=by simpa using ez
     rw[if_neg e1,if_neg e1]
     by_cases hk:t.Kind=0
     ·rw[if_pos (by simpa using hk),Bp (by simp only[List.length_cons,List.length_nil];omega)]
      simp -implicitDefEqProofs only[Option.bind_some]
      have:came++Ad (t.Kids.flatMap AA.tour)++[t.Table]=came++Ad t.tour:=by
       rw[Db t,Ct,II [] hk,List.append_assoc];rfl
      rw[this]
     ·rw[if_neg (by simpa using hk)]
      have:came++Ad (t.Kids.flatMap AA.tour)=came++Ad t.tour:=by
       rw[Db t,Ct,GV [] hk]
       have:Ad []=[]:=rfl
       rw[this,List.append_nil]
      rw[this]
    ·have e1:(e != 0)=true:=by simpa using ez
     rw[if_pos e1,if_pos e1]
   by_cases ez:e=0
   ·have e1:¬ (e != 0)=true:=by simpa using ez
    rw[if_neg e1] at hstep
    obtain⟨g1,g2⟩:=h0 ez
    refine .inr ⟨h1.trans hstep,fun y hy=>?_,?_⟩
    ·rw[Db,List.mem_append] at hy
     rcases hy with hy | hy
     ·exact h2 y hy
     ·simp at hy;subst hy;exact g1
    ·rw[Db t,Ct,← List.append_assoc]
     by_cases hk:t.Kind=0
     ·have e2:Ad [t]=[t.Table]:=II [] hk
      rw[e2]
      refine List.nodup_append.2 ⟨h3,by simp,fun a ha b hb=>?_⟩
      simp at hb;subst hb
      exact fun e=>g2 hk (e ▸ ha)
     ·have e2:Ad [t]=[]:=GV [] hk
      rw[e2,List.append_nil];exact h3
   ·have e1:(e != 0)=true:=by simpa using ez
    rw[if_pos e1] at hstep
    exact .inl ⟨e,ez,h1.trans hstep⟩
structure YT (q:Ba):Prop where
 ncols:q.Cols.length≤64
 colr:∀ c∈q.Cols,1≤c∧c≤4
 node:∀ y∈q.Root.tour,Kz q.Cols y
 nodup:(Ad q.Root.tour).Nodup
theorem WR (q:Ba) (hsz:q.Root.size≤600):∃ e,Ak q=some e∧(e=0→YT q):=by
 unfold Ak
 by_cases h64:(q.Cols.length:Int) > 64
 ·rw[if_pos (by simpa using h64)];exact⟨2,rfl,fun h=>by cases h⟩
 rw[if_neg (by simpa using h64)]
 have key:∀ n i,q.Cols.length - i=n→i≤q.Cols.length→Ak.l0 ((i:Int),q)=some (.ret 12)∨(Ak.l0 ((i:Int),q)=some (.brk ())∧∀ j (h:j<q.Cols.length),i≤j→1≤q.Cols[j]∧q.Cols[j]≤4):=by
  intro n
  induction n with
  | zero =>
   intro i h1 h2
   obtain rfl:i=q.Cols.length:=by omega
   rw[Ak.l0,if_neg (dge (by dsimp only;omega))]
   exact .inr ⟨rfl,fun j h h'=>by omega⟩
  | succ n ih =>
   intro i h1 h2
   have hi:i<q.Cols.length:=by omega
   rw[Ak.l0,if_pos (dlt (by dsimp only;omega))]
   dsimp only
   rw[Ag hi,AU (by omega)]
   simp -implicitDefEqProofs only[Option.bind_eq_bind,Option.bind_some]
   by_cases c1:q.Cols[i]<1
   ·rw[if_pos (dlt c1)];exact .inl rfl
   rw[if_neg (dge c1)]
   by_cases c4:q.Cols[i] > 4
   ·rw[if_pos (by simpa using c4)];exact .inl rfl
   rw[if_neg (by simpa using c4)]
   rcases ih (i+1) (by omega) (by omega) with ih | ⟨ih1,ih2⟩
   ·exact .inl ih
   ·refine .inr ⟨ih1,fun j hj hij=>?_⟩
    by_cases ej:j=i
    ·subst ej;omega
    ·exact ih2 j hj (by omega)
 have h0:=key q.Cols.length 0 (by omega) (by omega)
 rw[show ((0:Nat):Int)=0 from rfl] at h0
 rcases h0 with h0 | ⟨h0,hcols⟩
 ·rw[h0];exact⟨12,rfl,fun h=>by cases h⟩
 rw[h0]
 simp -implicitDefEqProofs only[Option.bind_eq_bind,Option.bind_some]
 rw[KJ _ (by omega)]
 simp -implicitDefEqProofs only[Option.bind_some]
 have htl:=KY q.Root
 have hnc:=Ld q.Root
 have h1:=ACb q q.Root.tour (by omega) (fun y hy=>by have:=Jn q.Root y hy;omega) q.Root 0 [] 0 [] (by simp) (by simp) (by simp;omega) (by simp)
 rw[show ((0:Nat):Int)=0 from rfl] at h1
 rcases h1 with⟨e,he,h1⟩|⟨h1,h2,h3⟩
 ·rw[h1];exact⟨e,rfl,fun h=>absurd h he⟩
 ·rw[h1,Ak.l1,if_neg (dge (by dsimp only;omega))]
  refine⟨0,rfl,fun _=>⟨by omega,fun c hc=>?_,h2,by simpa using h3⟩⟩
  obtain⟨j,hj,rfl⟩:=List.getElem_of_mem hc
  exact hcols j hj (Nat.zero_le _)
theorem WA (q:Ba) (hsz:q.Root.size≤600):∃ b,Gr q=some b∧(b=true→YT q):=by
 obtain⟨e,he,h⟩:=WR q hsz
 unfold Gr
 rw[he]
 exact⟨_,rfl,fun hb=>h (by simpa using hb)⟩
theorem Yx (q:Ba):Hw q=some (decide (q.Root.size≤600)):=by
 unfold Hw
 have e:=Xb q.Root 601 (by omega) (by omega)
 rw[show ((601:Nat):Int)=601 from rfl] at e
 rw[e]
 simp -implicitDefEqProofs only[Option.bind_eq_bind,Option.bind_some]
 congr 1
 exact decide_eq_decide.2 (by omega)
end
section
theorem AKT:okF Tryz.f97=true:=by kernel_rfl
mutual
def Cj.l0 (x:List AB × List AB × Int × Int × AB × AB):Option (List AB) :=
 if(decide (x.2.2.2.1<x.2.2.1))=true then
  (AX x.2.1 x.2.2.2.1)>>=fun (e2:AB) =>
  Cj e2>>=fun r4 =>
  (room 128 x.1 ([r4]))>>=fun (z6:List AB) =>
  Cj.l0 (z6,x.2.1,x.2.2.1,(w64 (x.2.2.2.1+1)),x.2.2.2.2.1,x.2.2.2.2.2)
 else
  some x.1
 partial_fixpoint
def Cj (x:AB):Option (AB) :=
 Cj.l0 (([]:List AB),x.Parts,(x.Parts.length:Int),0,x,(⟨0,0,0,(⟨0,0,0,(⟨false,0⟩:BV)⟩:BE),(⟨0,0,0,(⟨false,0⟩:BV)⟩:BE),[]⟩:AB))>>=fun (o8:List AB) =>
 some (⟨x.Kind,x.Truth,x.Op,x.A,x.B,o8⟩:AB)
 partial_fixpoint
end
theorem Cj.l0.ws:PC Cj.l0 (fun x o=>∀ lo c (Q:EP) (hb:∀ s:List AB,o=s→Q (.exit 0) ⟨[(1,.lref 1 0),(2,.lref 2 0),(3,.own 100300 14 (s.map AB.av))],[(1,[.v (.i64 x.2.2.2.2.1.Kind),.v (.i64 x.2.2.2.2.1.Truth),.v (.i64 x.2.2.2.2.1.Op),.v (.i64 x.2.2.2.2.1.A.Kind),.v (.i64 x.2.2.2.2.1.A.Table),.v (.i64 x.2.2.2.2.1.A.Col),.v (.bool x.2.2.2.2.1.A.Value.Null),.v (.i64 x.2.2.2.2.1.A.Value.N),.v (.i64 x.2.2.2.2.1.B.Kind),.v (.i64 x.2.2.2.2.1.B.Table),.v (.i64 x.2.2.2.2.1.B.Col),.v (.bool x.2.2.2.2.1.B.Value.Null),.v (.i64 x.2.2.2.2.1.B.Value.N),.v (.slice .foreign (x.2.2.2.2.1.Parts.map AB.av))]),(2,[.v (.i64 x.2.2.2.2.2.Kind),.v (.i64 x.2.2.2.2.2.Truth),.v (.i64 x.2.2.2.2.2.Op),.v (.i64 x.2.2.2.2.2.A.Kind),.v (.i64 x.2.2.2.2.2.A.Table),.v (.i64 x.2.2.2.2.2.A.Col),.v (.bool x.2.2.2.2.2.A.Value.Null),.v (.i64 x.2.2.2.2.2.A.Value.N),.v (.i64 x.2.2.2.2.2.B.Kind),.v (.i64 x.2.2.2.2.2.B.Table),.v (.i64 x.2.2.2.2.2.B.Col),.v (.bool x.2.2.2.2.2.B.Value.Null),.v (.i64 x.2.2.2.2.2.B.Value.N),.own 20000213 14 (x.2.2.2.2.2.Parts.map AB.av)])]⟩),AJ Tryz.prog 97 lo c 0 (VQ Q) ⟨[(1,.lref 1 0),(2,.lref 2 0),(3,.own 100300 14 (x.1.map AB.av)),(7,.v (.slice .foreign (x.2.1.map AB.av))),(8,.v (.i64 x.2.2.1)),(9,.v (.i64 x.2.2.2.1))],[(1,[.v (.i64 x.2.2.2.2.1.Kind),.v (.i64 x.2.2.2.2.1.Truth),.v (.i64 x.2.2.2.2.1.Op),.v (.i64 x.2.2.2.2.1.A.Kind),.v (.i64 x.2.2.2.2.1.A.Table),.v (.i64 x.2.2.2.2.1.A.Col),.v (.bool x.2.2.2.2.1.A.Value.Null),.v (.i64 x.2.2.2.2.1.A.Value.N),.v (.i64 x.2.2.2.2.1.B.Kind),.v (.i64 x.2.2.2.2.1.B.Table),.v (.i64 x.2.2.2.2.1.B.Col),.v (.bool x.2.2.2.2.1.B.Value.Null),.v (.i64 x.2.2.2.2.1.B.Value.N),.v (.slice .foreign (x.2.2.2.2.1.Parts.map AB.av))]),(2,[.v (.i64 x.2.2.2.2.2.Kind),.v (.i64 x.2.2.2.2.2.Truth),.v (.i64 x.2.2.2.2.2.Op),.v (.i64 x.2.2.2.2.2.A.Kind),.v (.i64 x.2.2.2.2.2.A.Table),.v (.i64 x.2.2.2.2.2.A.Col),.v (.bool x.2.2.2.2.2.A.Value.Null),.v (.i64 x.2.2.2.2.2.A.Value.N),.v (.i64 x.2.2.2.2.2.B.Kind),.v (.i64 x.2.2.2.2.2.B.Table),.v (.i64 x.2.2.2.2.2.B.Col),.v (.bool x.2.2.2.2.2.B.Value.Null),.v (.i64 x.2.2.2.2.2.B.Value.N),.own 20000213 14 (x.2.2.2.2.2.Parts.map AB.av)])]⟩)∧PC Cj (fun x r=>Fn Tryz.prog 97 [.agg (AB.C x)] (.agg (AB.C r))):=by
 refine Cj.l0.mutual_partial_correctness _ _ ?_ ?_
 ·intro Jj Xv Is Vr x o h
  have TP:AH Jj _:=⟨Is⟩
  have AJS:AH Xv _:=⟨Vr⟩
  intro lo c Q hb
  refine AJ.step mix AHR (by kernel_rfl) ?_
  simp -implicitDefEqProofs only[go_sem,Tryz.f97]
  exact AN
 ·intro Jj Is x r h
  have TP:AH Jj _:=⟨Is⟩
  refine Fn.of_lc mix AHR AKT (by rfl) (flC (AB.flatC _) (flN)) (AB.flatC _) ?_
  simp -implicitDefEqProofs only[go_sem,Tryz.f97]
  exact AN
instance Cj.w:type_of% (AH.mk Cj.l0.ws.2):=⟨Cj.l0.ws.2⟩
end
section
@[go_sem] theorem APL:lrp Tryz.prog 98 6=(12,[]):=by kernel_rfl
theorem ALB:okF Tryz.f98=true:=by kernel_rfl
mutual
def CW.l0 (x:Int × AB × AB):Option (Lp (Unit) (Bool)) :=
 if(decide (x.1<(x.2.1.Parts.length:Int)))=true then
  (AX x.2.1.Parts x.1)>>=fun (e8:AB) =>
  (AX x.2.2.Parts x.1)>>=fun (e10:AB) =>
  CW (e8,e10)>>=fun r12 =>
  if r12=true then
   CW.l0 ((w64 (x.1+1)),x.2.1,x.2.2)
  else
   some (.ret false)
 else
  some (.brk ())
 partial_fixpoint
def CW (x:AB × AB):Option (Bool) :=
 if(x.1.Kind != x.2.Kind)=true then
  some false
 else
  if(x.1.Truth != x.2.Truth)=true then
   some false
  else
   if(x.1.Op != x.2.Op)=true then
    some false
   else
    if((x.1.A.Kind == x.2.A.Kind)&&((x.1.A.Table == x.2.A.Table)&&((x.1.A.Col == x.2.A.Col)&&((x.1.A.Value.Null == x.2.A.Value.Null)&&(x.1.A.Value.N == x.2.A.Value.N)))))=true then
     if((x.1.B.Kind == x.2.B.Kind)&&((x.1.B.Table == x.2.B.Table)&&((x.1.B.Col == x.2.B.Col)&&((x.1.B.Value.Null == x.2.B.Value.Null)&&(x.1.B.Value.N == x.2.B.Value.N)))))=true then
      if((x.1.Parts.length:Int) != (x.2.Parts.length:Int))=true then
       some false
      else
       CW.l0 (0,x.1,x.2)>>=fun (o15:Lp (Unit) (Bool))=>match o15 with
       | .brk s18 =>
        some true
       | .ret r17 =>
        some r17
     else
      some false
    else
     some false
 partial_fixpoint
end
theorem CW.l0.ws:PC CW.l0 (fun x o=>∀ lo c (Q:EP) (hb:∀ s:Unit,o=Lp.brk s→Q (.exit 0) ⟨[],[]⟩) (hr:∀ (r:Bool) (L:AM),o=.ret r→DO Tryz.prog [.tmp 4] (.bool r) (fun _=>True) .ret L→Q .ret L),AJ Tryz.prog 98 lo c 0 (VQ Q) ⟨[(2,.lref 2 0),(3,.lref 3 0),(5,.v (.i64 x.1))],[(2,[.v (.i64 x.2.1.Kind),.v (.i64 x.2.1.Truth),.v (.i64 x.2.1.Op),.v (.i64 x.2.1.A.Kind),.v (.i64 x.2.1.A.Table),.v (.i64 x.2.1.A.Col),.v (.bool x.2.1.A.Value.Null),.v (.i64 x.2.1.A.Value.N),.v (.i64 x.2.1.B.Kind),.v (.i64 x.2.1.B.Table),.v (.i64 x.2.1.B.Col),.v (.bool x.2.1.B.Value.Null),.v (.i64 x.2.1.B.Value.N),.v (.slice .foreign (x.2.1.Parts.map AB.av))]),(3,[.v (.i64 x.2.2.Kind),.v (.i64 x.2.2.Truth),.v (.i64 x.2.2.Op),.v (.i64 x.2.2.A.Kind),.v (.i64 x.2.2.A.Table),.v (.i64 x.2.2.A.Col),.v (.bool x.2.2.A.Value.Null),.v (.i64 x.2.2.A.Value.N),.v (.i64 x.2.2.B.Kind),.v (.i64 x.2.2.B.Table),.v (.i64 x.2.2.B.Col),.v (.bool x.2.2.B.Value.Null),.v (.i64 x.2.2.B.Value.N),.v (.slice .foreign (x.2.2.Parts.map AB.av))])]⟩)∧PC CW (fun x r=>Fn Tryz.prog 98 [.agg (AB.C x.1),.agg (AB.C x.2)] (.bool r)):=by
 refine CW.l0.mutual_partial_correctness _ _ ?_ ?_
 ·intro Iw WO IO VH x o h
  have RW:AH Iw _:=⟨IO⟩
  have AIH:AH WO _:=⟨VH⟩
  intro lo c Q hb hr
  refine AJ.step mix AHN (by kernel_rfl) ?_
  simp -implicitDefEqProofs only[go_sem,Tryz.f98]
  exact AN
 ·intro Iw IO x r h
  have RW:AH Iw _:=⟨IO⟩
  refine Fn.of_lc mix AHN ALB (by rfl) (flC (AB.flatC _) (flC (AB.flatC _) (flN))) (.atom _) ?_
  simp -implicitDefEqProofs only[go_sem,Tryz.f98]
  exact AN
instance CW.w:type_of% (AH.mk CW.l0.ws.2):=⟨CW.l0.ws.2⟩
end
section
@[go_sem] theorem AOM:lrp Tryz.prog 58 6=(10,[]):=by kernel_rfl
theorem AL4:okF Tryz.f58=true:=by kernel_rfl
def CG.l0 (x:List AB × List AB × Int):Option (Lp (Unit) (Bool)) :=
 if(decide (x.2.2<(x.1.length:Int)))=true then
  (AX x.1 x.2.2)>>=fun (e3:AB) =>
  (AX x.2.1 x.2.2)>>=fun (e5:AB) =>
  CW (e3,e5)>>=fun r7 =>
  if r7=true then
   CG.l0 (x.1,x.2.1,(w64 (x.2.2+1)))
  else
   some (.ret false)
 else
  some (.brk ())
 partial_fixpoint
theorem CG.l0.ws:PC CG.l0 (fun x o=>∀ lo c (Q:EP) (hb:∀ s:Unit,o=Lp.brk s→Q (.exit 0) ⟨[],[]⟩) (hr:∀ (r:Bool) (L:AM),o=.ret r→DO Tryz.prog [.tmp 4] (.bool r) (fun _=>True) .ret L→Q .ret L),AJ Tryz.prog 58 lo c 0 (VQ Q) ⟨[(0,.v (.slice .foreign (x.1.map AB.av))),(1,.v (.slice .foreign (x.2.1.map AB.av))),(5,.v (.i64 x.2.2))],[]⟩):=by
 refine CG.l0.partial_correctness _ ?_
 ·intro RX Qh x o h
  have AFY:AH RX _:=⟨Qh⟩
  intro lo c Q hb hr
  refine AJ.step mix AHC (by kernel_rfl) ?_
  simp -implicitDefEqProofs only[go_sem,Tryz.f58]
  exact AN
instance CG.l0.w:type_of% (AH.mk CG.l0.ws):=⟨CG.l0.ws⟩
def CG (x:List AB × List AB):Option (Bool) :=
 if((x.1.length:Int) != (x.2.length:Int))=true then
  some false
 else
  CG.l0 (x.1,x.2,0)>>=fun (o10:Lp (Unit) (Bool))=>match o10 with
  | .brk s13 =>
   some true
  | .ret r12 =>
   some r12
instance CG.w:AH CG (fun x r=>Fn Tryz.prog 58 [.slice .foreign (x.1.map AB.av),.slice .foreign (x.2.map AB.av)] (.bool r)):=⟨by
 intro x r h
 rw[CG] at h
 try dsimp only
 refine Fn.of_lc mix AHC AL4 (by rfl) (flC (AQ _ AB.flat _) (flC (AQ _ AB.flat _) (flN))) (.atom _) ?_
 simp -implicitDefEqProofs only[go_sem,Tryz.f58]
 exact AN⟩
end
section
open Classical
theorem ME (p:AB):p.size≤1000000→Cj p=some p:=by
 induction p using AB.induct with
 | h p ih =>
  intro hsz
  have hpl:=Jv p
  have key:∀ (q:AB) n i (s:List AB),p.Parts.length - i=n→i≤p.Parts.length→s.length≤i →
    Cj.l0 (s,p.Parts,(p.Parts.length:Int),(i:Int),p,q)=some (s++p.Parts.drop i):=by
   intro q n
   induction n with
   | zero =>
    intro i s h1 h2 _
    obtain rfl:i=p.Parts.length:=by omega
    rw[Cj.l0,if_neg (dge (by dsimp only;omega)),List.drop_length,List.append_nil]
   | succ n ihn =>
    intro i s h1 h2 hs
    have hi:i<p.Parts.length:=by omega
    rw[List.drop_eq_getElem_cons hi]
    rw[Cj.l0,if_pos (dlt (by dsimp only;omega))]
    dsimp only
    rw[Ag hi]
    simp -implicitDefEqProofs only[Option.bind_eq_bind,Option.bind_some]
    have hm:=List.getElem_mem hi
    have hsz2:=Jo hm
    rw[ih _ hm (by omega)]
    simp -implicitDefEqProofs only[Option.bind_some]
    rw[Bp (by simp only[List.length_cons,List.length_nil];omega),AU (by omega)]
    simp -implicitDefEqProofs only[Option.bind_some]
    rw[ihn (i+1) _ (by omega) (by omega) (by rw[List.length_append];simp only[List.length_cons,List.length_nil];omega),List.append_assoc];rfl
  rw[Cj]
  have h0:=key ⟨0,0,0,⟨0,0,0,⟨false,0⟩⟩,⟨0,0,0,⟨false,0⟩⟩,[]⟩ p.Parts.length 0 [] (by omega) (by omega) (by simp)
  rw[show ((0:Nat):Int)=0 from rfl] at h0
  rw[h0,List.drop_zero,List.nil_append]
  obtain⟨a,b,c,d,e,f⟩:=p
  rfl
theorem AG7 {α β:Type} {l:List α} {l':List β} (h:¬ l.length=l'.length):((l.length:Int) != (l'.length:Int))=true:=by
 simp only[bne_iff_ne,ne_eq];omega
theorem AG2 {α β:Type} {l:List α} {l':List β} (h:l.length=l'.length):¬ ((l.length:Int) != (l'.length:Int))=true:=by
 simp only[bne_iff_ne,ne_eq];omega
theorem AGs {a b:BE} (h:((a.Kind == b.Kind)&&((a.Table == b.Table)&&((a.Col == b.Col)&&((a.Value.Null == b.Value.Null)&&(a.Value.N == b.Value.N)))))=true):a=b:=by
 obtain⟨a1,a2,a3,a4,a5⟩:=a
 obtain⟨b1,b2,b3,b4,b5⟩:=b
 simpa using h
theorem Wk (a b:BE):((a.Kind == b.Kind)&&((a.Table == b.Table)&&((a.Col == b.Col)&&((a.Value.Null == b.Value.Null)&&(a.Value.N == b.Value.N)))))=decide (a=b):=by
 rw[Bool.eq_iff_iff]
 constructor
 ·intro h;simpa using AGs h
 ·intro h;have:a=b:=by simpa using h
  subst this;simp
theorem AAV (p q:AB):p=q ↔ p.Kind=q.Kind∧p.Truth=q.Truth∧p.Op=q.Op∧p.A=q.A∧p.B=q.B∧p.Parts=q.Parts:=by
 obtain⟨a,b,c,d,e,f⟩:=p
 obtain⟨a',b',c',d',e',f'⟩:=q
 simp
theorem AAx {α:Type} (l l':List α) (hlen:l.length=l'.length) (F:Nat→Option (Lp Unit Bool)) (P:α→Prop)
  (h0:F l.length=some (.brk ()))
  (hs:∀ i (h:i<l.length),F i=if l[i]=l'[i]'(hlen ▸ h) then F (i+1) else some (.ret false)):F 0=if l=l' then some (.brk ()) else some (.ret false):=by
 have key:∀ n i,l.length - i=n→i≤l.length→F i=if l.drop i=l'.drop i then some (.brk ()) else some (.ret false):=by
  intro n
  induction n with
  | zero =>
   intro i h1 h2
   obtain rfl:i=l.length:=by omega
   rw[h0,if_pos (by rw[List.drop_length,hlen,List.drop_length])]
  | succ n ih =>
   intro i h1 h2
   have hi:i<l.length:=by omega
   have hi':i<l'.length:=hlen ▸ hi
   rw[hs i hi,List.drop_eq_getElem_cons hi,List.drop_eq_getElem_cons hi',ih (i+1) (by omega) (by omega)]
   by_cases e:l[i]=l'[i]
   ·rw[if_pos e,e]
    by_cases e2:l.drop (i+1)=l'.drop (i+1)
    ·rw[if_pos e2,if_pos (by rw[e2])]
    ·rw[if_neg e2,if_neg (fun h=>e2 (List.cons.inj h).2)]
   ·rw[if_neg e,if_neg (fun h=>e (List.cons.inj h).1)]
 have:=key l.length 0 (by omega) (by omega)
 rwa [List.drop_zero,List.drop_zero] at this
theorem XY (p:AB):∀ q:AB,p.size≤1000000→CW (p,q)=some (decide (p=q)):=by
 induction p using AB.induct with
 | h p ih =>
  intro q hsz
  have hpl:=Jv p
  rw[CW]
  dsimp only
  rw[Wk,Wk]
  by_cases h1:p.Kind=q.Kind
  case neg=>rw[if_pos (by simpa using h1)];congr 1;exact(decide_eq_false (fun h=>h1 (by rw[h]))).symm
  rw[if_neg (by simpa using h1)]
  by_cases h2:p.Truth=q.Truth
  case neg=>rw[if_pos (by simpa using h2)];congr 1;exact(decide_eq_false (fun h=>h2 (by rw[h]))).symm
  rw[if_neg (by simpa using h2)]
  by_cases h3:p.Op=q.Op
  case neg=>rw[if_pos (by simpa using h3)];congr 1;exact(decide_eq_false (fun h=>h3 (by rw[h]))).symm
  rw[if_neg (by simpa using h3)]
  by_cases h4:p.A=q.A
  case neg=>rw[if_neg (by simpa using h4)];congr 1;exact(decide_eq_false (fun h=>h4 (by rw[h]))).symm
  rw[if_pos (by simpa using h4)]
  by_cases h5:p.B=q.B
  case neg=>rw[if_neg (by simpa using h5)];congr 1;exact(decide_eq_false (fun h=>h5 (by rw[h]))).symm
  rw[if_pos (by simpa using h5)]
  by_cases h6:p.Parts.length=q.Parts.length
  case neg=>rw[if_pos (AG7 h6)];congr 1;exact(decide_eq_false (fun h=>h6 (by rw[h]))).symm
  rw[if_neg (AG2 h6)]
  have key:=AAx p.Parts q.Parts h6 (fun i=>CW.l0 ((i:Int),p,q)) (fun _=>True) (by
   show CW.l0 _=_
   rw[CW.l0,if_neg (dge (by dsimp only;omega))]) (fun i h=>by
   show CW.l0 _=_
   rw[CW.l0,if_pos (dlt (by dsimp only;omega))]
   dsimp only
   rw[Ag h,Ag (h6 ▸ h),AU (by omega)]
   simp -implicitDefEqProofs only[Option.bind_eq_bind,Option.bind_some]
   have hm:=List.getElem_mem h
   have hs:=Jo hm
   rw[ih _ hm _ (by omega)]
   simp -implicitDefEqProofs only[Option.bind_some,decide_eq_true_eq])
  have key':CW.l0 (0,p,q)=_:=key
  rw[key']
  by_cases e:p.Parts=q.Parts
  ·rw[if_pos e,decide_eq_true ((AAV p q).2 ⟨h1,h2,h3,h4,h5,e⟩)];rfl
  ·rw[if_neg e,decide_eq_false (fun h=>e (by rw[h]))];rfl
theorem Xp (l l':List AB) (hlen:l.length≤1000000) (hsz:∀ p∈l,p.size≤1000000):CG (l,l')=some (decide (l=l')):=by
 unfold CG
 dsimp only
 by_cases h6:l.length=l'.length
 case neg=>rw[if_pos (AG7 h6)];congr 1;exact(decide_eq_false (fun h=>h6 (by rw[h]))).symm
 rw[if_neg (AG2 h6)]
 have key:=AAx l l' h6 (fun i=>CG.l0 (l,l',(i:Int))) (fun _=>True) (by
  show CG.l0 _=_
  rw[CG.l0,if_neg (dge (by dsimp only;omega))]) (fun i h=>by
  show CG.l0 _=_
  rw[CG.l0,if_pos (dlt (by dsimp only;omega))]
  dsimp only
  rw[Ag h,Ag (h6 ▸ h),AU (by omega)]
  simp -implicitDefEqProofs only[Option.bind_eq_bind,Option.bind_some]
  rw[XY _ _ (hsz _ (List.getElem_mem h))]
  simp -implicitDefEqProofs only[Option.bind_some,decide_eq_true_eq])
 have key':CG.l0 (l,l',0)=_:=key
 rw[key']
 by_cases e:l=l'
 ·rw[if_pos e,decide_eq_true e];rfl
 ·rw[if_neg e,decide_eq_false e];rfl
end
section
def cnt (s:AC):Nat:=(List.range 64).countP fun j=>s.getLsbD j
theorem Ns (s:AC):Da s=some (cnt s:Int):=by
 unfold Da BL
 have key:=Fy (List.range 64) (fun i (acc:List Int)=>acc.length≤i) (fun i acc=>BL.l0 (s,acc,(i:Int))) (fun acc l=>some (acc++(l.filter fun j=>s.getLsbD j).map fun (j:Nat)=>(j:Int)))
  (fun acc _=>by
   show BL.l0 _=_
   rw[BL.l0,if_neg (by simp)]
   simp)
  (fun i acc h hacc ih=>by
   have hi:i<64:=by simpa using h
   show BL.l0 _=_
   rw[BL.l0,if_pos (by simp;omega)]
   dsimp only
   rw[Eb,DK _ _ hi,AU (by omega),List.getElem_range]
   simp -implicitDefEqProofs only[Option.bind_eq_bind,Option.bind_some]
   by_cases hb:s.getLsbD i=true
   ·rw[if_pos hb,Bp (by simp only[List.length_cons,List.length_nil];omega)]
    simp -implicitDefEqProofs only[Option.bind_some]
    have:=ih (acc++[(i:Int)]) (by rw[List.length_append];simp only[List.length_cons,List.length_nil];omega)
    rw[this,List.filter_cons_of_pos hb,List.map_cons,List.append_assoc];rfl
   ·rw[if_neg hb]
    have:=ih acc (by omega)
    rw[this,List.filter_cons_of_neg hb]) 0 [] (by simp) (by simp)
 have key':BL.l0 (s,[],0)=_:=key
 rw[key']
 simp -implicitDefEqProofs only[Option.bind_eq_bind,Option.bind_some]
 rw[List.drop_zero,List.nil_append,List.length_map,cnt,List.countP_eq_length_filter]
theorem ACt {α:Type} (p q:α→Bool):∀ (l:List α),(∀ x∈l,p x=true→q x=true)→(∃ x∈l,q x=true∧¬ p x=true)→l.countP p<l.countP q:=by
 intro l
 induction l with
 | nil=>intro _ ⟨x,hx,_⟩;cases hx
 | cons x l ih =>
  intro h1 ⟨y,hy,hq,hp⟩
  have hle:l.countP p≤l.countP q:=List.countP_mono_left fun z hz=>h1 z (List.mem_cons_of_mem _ hz)
  rw[List.countP_cons,List.countP_cons]
  rcases List.mem_cons.1 hy with rfl | hy
  ·rw[if_neg hp,if_pos hq];omega
  ·have:=ih (fun z hz=>h1 z (List.mem_cons_of_mem _ hz)) ⟨y,hy,hq,hp⟩
   have hx:=h1 x List.mem_cons_self
   by_cases e:p x=true
   ·rw[if_pos e,if_pos (hx e)];omega
   ·rw[if_neg e];split <;> omega
theorem WU {s:AC} {n:Int} (h:AY s n=true):∃ j:Nat,j<64∧n=(j:Int)∧s.getLsbD j=true:=by
 unfold AY at h
 rw[Bool.and_eq_true,decide_eq_true_eq] at h
 exact⟨n.toNat,by omega,by omega,h.2⟩
theorem RA (a b:AC):inS a b=true ↔ ∀ n,AY a n=true→AY b n=true:=by
 rw[Jl]
 constructor
 ·intro h n hn
  obtain⟨j,hj,rfl,hb⟩:=WU hn
  rw[DK _ _ hj];exact h j hj hb
 ·intro h j hj hb
  have:=h (j:Int) (by rw[DK _ _ hj];exact hb)
  rwa [DK _ _ hj] at this
theorem ADT {a b:AC} (h:∀ n,AY a n=true→AY b n=true) (h2:∃ n,AY b n=true∧¬ AY a n=true):cnt a<cnt b:=by
 unfold cnt
 refine ACt _ _ _ (fun j hj hb=>?_) ?_
 ·have hj:j<64:=by simpa using hj
  have:=h (j:Int) (by rw[DK _ _ hj];exact hb)
  rwa [DK _ _ hj] at this
 ·obtain⟨n,hb,ha⟩:=h2
  obtain⟨j,hj,rfl,hb2⟩:=WU hb
  rw[DK _ _ hj] at ha
  exact⟨j,by simpa using hj,hb2,ha⟩
theorem WP (a b:AC) (n:Int):AY (a|||b) n=(AY a n || AY b n):=by
 unfold AY
 rw[BitVec.getLsbD_or]
 cases decide (0≤n∧n<64) <;> simp
theorem AGN (l:List Int) (n:Int):AY (ofL l) n=true ↔ 0≤n∧n<64∧n∈l:=by
 constructor
 ·intro h
  obtain⟨j,hj,rfl,hb⟩:=WU h
  rw[Qz _ _ hj,List.any_eq_true] at hb
  obtain⟨x,hx,hxj⟩:=hb
  have:x=(j:Int):=by simpa using hxj
  exact⟨by omega,by omega,this ▸ hx⟩
 ·intro ⟨h0,h1,h2⟩
  obtain⟨j,rfl⟩:∃ j:Nat,n=j:=⟨n.toNat,by omega⟩
  rw[DK _ _ (by omega),Qz _ _ (by omega),List.any_eq_true]
  exact⟨_,h2,by simp⟩
inductive WJ (cols:List Int) (t:AA):Prop
 | leaf (hk:t.Kind=0) (hks:t.Kids=[]) (hc:t.Conj=[]) (h0:0≤t.Table) (h1:t.Table<(cols.length:Int))
 | op (a b:AA) (hk1:1≤t.Kind) (hk2:t.Kind≤4) (hks:t.Kids=[a,b])
abbrev OkT (cols:List Int) (t:AA):Prop:=∀ y∈t.tour,WJ cols y
theorem Kz.bin {cols:List Int} {t:AA} (h:Kz cols t):WJ cols t:=by
 cases h with
 | leaf hk hks hc hh h0 h1=>exact .leaf hk hks hc h0 h1
 | op a b hk1 hk2 hks=>exact .op a b hk1 hk2 hks
theorem okT {cols:List Int} {t:AA} (h:∀ y∈t.tour,Kz cols y):OkT cols t:=fun y hy=>(h y hy).bin
theorem OkT.kid {cols:List Int} {t y:AA} (h:OkT cols t) (hy:y∈t.Kids):OkT cols y:=fun z hz=>h z (YH hy z hz)
theorem OkT.self {cols:List Int} {t:AA} (h:OkT cols t):WJ cols t:=h t (Ww t)
theorem Mv {t a b:AA} (h:t.Kids=[a,b]):t.tour=a.tour++b.tour++[t]:=by
 rw[Db,h];simp
theorem ABY {t:AA} (h:t.Kids=[]):t.tour=[t]:=by
 rw[Db,h];simp
def MM (l:List AA):List AA:=l.filter fun y=>decide (1<y.Kind)
theorem AAc (l l':List AA):MM (l++l')=MM l++MM l':=List.filter_append _ _
abbrev CO (t:AA):Nat:=(MM t.tour).length
def EC (t:AA) (off:Nat) (home:Int):List (AA × Int) :=
 match h:t.Kids with
 | [a,b]=>EC a off home++EC b (off+CO a) (if 1<t.Kind then((off+CO a+CO b:Nat):Int) else home)++[(t,home)]
 | _=>[(t,home)]
termination_by t.size
decreasing_by
 ·exact Cc (by rw[h];simp)
 ·exact Cc (by rw[h];simp)
theorem Vg {t a b:AA} (h:t.Kids=[a,b]) (off:Nat) (home:Int):EC t off home=EC a off home++EC b (off+CO a) (if 1<t.Kind then((off+CO a+CO b:Nat):Int) else home)++[(t,home)]:=by
 rw[EC]
 split
 ·rename_i x y e
  rw[h] at e
  injection e with e1 e2
  injection e2 with e2 _
  subst e1;subst e2;rfl
 ·rename_i e;exact absurd h (e _ _)
theorem Vi {t:AA} (h:t.Kids=[]) (off:Nat) (home:Int):EC t off home=[(t,home)]:=by
 rw[EC]
 split
 ·rename_i x y e
  rw[h] at e;cases e
 ·rfl
def KQ (l:List AB):AC:=l.foldl (fun s p=>s|||p.tabs) 0#64
theorem AEK (l:List AB):∀ s:AC,l.foldl (fun s p=>s|||p.tabs) s=s|||KQ l:=by
 unfold KQ
 induction l with
 | nil=>intro s;simp
 | cons x l ih=>intro s;simp only[List.foldl_cons];rw[ih,ih (0#64|||x.tabs),BitVec.zero_or,BitVec.or_assoc]
theorem Uc (x:AB) (l:List AB):KQ (x :: l)=x.tabs|||KQ l:=by
 rw[KQ,List.foldl_cons,AEK,BitVec.zero_or]
def NV (t:AA):AC:=match t.Kids with | a :: _=>AS a | _=>0#64
def WT (t:AA):AC:=match t.Kids with | _ :: b :: _=>AS b | _=>0#64
theorem Ly {t a b:AA} (h:t.Kids=[a,b]):NV t=AS a:=by unfold NV;rw[h]
theorem RJ {t a b:AA} (h:t.Kids=[a,b]):WT t=AS b:=by unfold WT;rw[h]
end
section
theorem AJO:okF Tryz.f168=true:=by kernel_rfl
def Dt (x:Bool):Option (Int) :=
 if x=true then
  some 2
 else
  some 0
instance Dt.w:AH Dt (fun x r=>Fn Tryz.prog 168 [.bool x] (.i64 r)):=⟨by
 intro x r h
 rw[Dt] at h
 try dsimp only
 refine Fn.of_lc mix AKv AJO (by rfl) (flC (.atom _) (flN)) (.atom _) ?_
 simp -implicitDefEqProofs only[go_sem,Tryz.f168]
 exact AN⟩
end
section
theorem AJA:okF Tryz.f167=true:=by kernel_rfl
def Fm (x:Int × BV × BV):Option (Int) :=
 if x.2.1.Null=true then
  some 1
 else
  if x.2.2.Null=true then
   some 1
  else
   if(x.1 == 1)=true then
    Dt (x.2.1.N == x.2.2.N)>>=fun r4 =>
    some r4
   else
    if(x.1 == 2)=true then
     Dt (x.2.1.N != x.2.2.N)>>=fun r7 =>
     some r7
    else
     if(x.1 == 3)=true then
      Dt (decide (x.2.1.N<x.2.2.N))>>=fun r10 =>
      some r10
     else
      if(x.1 == 4)=true then
       Dt (decide (x.2.1.N≤x.2.2.N))>>=fun r13 =>
       some r13
      else
       if(x.1 == 5)=true then
        Dt (decide (x.2.1.N > x.2.2.N))>>=fun r16 =>
        some r16
       else
        if(x.1 == 6)=true then
         Dt (decide (x.2.1.N ≥ x.2.2.N))>>=fun r19 =>
         some r19
        else
         some 1
instance Fm.w:AH Fm (fun x r=>Fn Tryz.prog 167 [.i64 x.1,.agg (BV.C x.2.1),.agg (BV.C x.2.2)] (.i64 r)):=⟨by
 intro x r h
 rw[Fm] at h
 try dsimp only
 refine Fn.of_lc mix AJp AJA (by rfl) (flC (.atom _) (flC (BV.flatC _) (flC (BV.flatC _) (flN)))) (.atom _) ?_
 simp -implicitDefEqProofs only[go_sem,Tryz.f167]
 exact AN⟩
end
section
theorem AIF:okF Tryz.f166=true:=by kernel_rfl
def Fh (x:BE × AC):Option (Bool) :=
 if(x.1.Kind == 1)=true then
  CZ (x.2,x.1.Table)>>=fun r2 =>
  if r2=true then
   some true
  else
   some false
 else
  some x.1.Value.Null
instance Fh.w:AH Fh (fun x r=>Fn Tryz.prog 166 [.agg (BE.C x.1),.w x.2] (.bool r)):=⟨by
 intro x r h
 rw[Fh] at h
 try dsimp only
 refine Fn.of_lc mix AKe AIF (by rfl) (flC (BE.flatC _) (flC (.atom _) (flN))) (.atom _) ?_
 simp -implicitDefEqProofs only[go_sem,Tryz.f166]
 exact AN⟩
end
section
theorem AIe:okF Tryz.f160=true:=by kernel_rfl
theorem AIP:okF Tryz.f161=true:=by kernel_rfl
theorem AIz:okF Tryz.f162=true:=by kernel_rfl
theorem AIs:okF Tryz.f157=true:=by kernel_rfl
theorem AJB:okF Tryz.f164=true:=by kernel_rfl
mutual
def Cy.l0 (x:List AB × AC × Int):Option (Lp (Unit) (Bool)) :=
 if(decide (x.2.2<(x.1.length:Int)))=true then
  (AX x.1 x.2.2)>>=fun (e2:AB) =>
  Dm (e2,x.2.1,0)>>=fun r4 =>
  if r4=true then
   Cy.l0 (x.1,x.2.1,(w64 (x.2.2+1)))
  else
   Dm (e2,x.2.1,1)>>=fun r7 =>
   if r7=true then
    Cy.l0 (x.1,x.2.1,(w64 (x.2.2+1)))
   else
    Dm (e2,x.2.1,2)>>=fun r10 =>
    if r10=true then
     Cy.l0 (x.1,x.2.1,(w64 (x.2.2+1)))
    else
     some (.ret false)
 else
  some (.brk ())
 partial_fixpoint
def Dm (x:AB × AC × Int):Option (Bool) :=
 if(x.1.Kind == 1)=true then
  if(x.2.2 == x.1.Truth)=true then
   some true
  else
   if(x.2.2 == 1)=true then
    if(decide (x.1.Truth<0))=true then
     some true
    else
     some (decide (x.1.Truth > 2))
   else
    some false
 else
  if(x.1.Kind == 2)=true then
   if(decide (x.1.Op<1))=true then
    some (x.2.2 == 1)
   else
    if(decide (x.1.Op > 6))=true then
     some (x.2.2 == 1)
    else
     Fh (x.1.A,x.2.1)>>=fun r8 =>
     if r8=true then
      some (x.2.2 == 1)
     else
      Fh (x.1.B,x.2.1)>>=fun r11 =>
      if r11=true then
       some (x.2.2 == 1)
      else
       if(x.1.A.Kind == 1)=true then
        some true
       else
        if(x.1.B.Kind == 1)=true then
         some true
        else
         Fm (x.1.Op,x.1.A.Value,x.1.B.Value)>>=fun r16 =>
         some (x.2.2 == r16)
  else
   if(x.1.Kind == 3)=true then
    Fh (x.1.A,x.2.1)>>=fun r19 =>
    if r19=true then
     some (x.2.2 == 2)
    else
     if(x.2.2 == 0)=true then
      some true
     else
      if(x.2.2 == 2)=true then
       some (x.1.A.Kind == 1)
      else
       some false
   else
    if(x.1.Kind == 4)=true then
     GU (x.1.Parts,x.2.1,x.2.2,2)>>=fun r25 =>
     some r25
    else
     if(x.1.Kind == 5)=true then
      GU (x.1.Parts,x.2.1,x.2.2,0)>>=fun r28 =>
      some r28
     else
      if(x.1.Kind == 6)=true then
       if(decide ((x.1.Parts.length:Int) > 0))=true then
        (x.1.Parts[0]?)>>=fun (e32:AB) =>
        Dm (e32,x.2.1,(w64 (2 - x.2.2)))>>=fun r34 =>
        some r34
       else
        some (x.2.2 == 1)
      else
       some (x.2.2 == 1)
 partial_fixpoint
def GU (x:List AB × AC × Int × Int):Option (Bool) :=
 Cy (x.1,x.2.1)>>=fun r1 =>
 if r1=true then
  if(x.2.2.1 == x.2.2.2)=true then
   DM (x.1,x.2.1,x.2.2.2,x.2.2.2)>>=fun r5 =>
   some r5
  else
   if(x.2.2.1 == 1)=true then
    Dr (x.1,x.2.1,1)>>=fun r8 =>
    if r8=true then
     DM (x.1,x.2.1,1,x.2.2.2)>>=fun r11 =>
     some r11
    else
     some false
   else
    Dr (x.1,x.2.1,(w64 (2 - x.2.2.2)))>>=fun r13 =>
    some r13
 else
  some false
 partial_fixpoint
def Dr (x:List AB × AC × Int):Option (Bool) :=
 Dr.l0 (x.1,x.2.1,x.2.2,0)>>=fun (o7:Lp (Unit) (Bool))=>match o7 with
 | .brk s10 =>
  some false
 | .ret r9 =>
  some r9
 partial_fixpoint
def Dr.l0 (x:List AB × AC × Int × Int):Option (Lp (Unit) (Bool)) :=
 if(decide (x.2.2.2<(x.1.length:Int)))=true then
  (AX x.1 x.2.2.2)>>=fun (e2:AB) =>
  Dm (e2,x.2.1,x.2.2.1)>>=fun r4 =>
  if r4=true then
   some (.ret true)
  else
   Dr.l0 (x.1,x.2.1,x.2.2.1,(w64 (x.2.2.2+1)))
 else
  some (.brk ())
 partial_fixpoint
def DM (x:List AB × AC × Int × Int):Option (Bool) :=
 DM.l0 (x.1,x.2.1,x.2.2.1,x.2.2.2,0)>>=fun (o10:Lp (Unit) (Bool))=>match o10 with
 | .brk s13 =>
  some true
 | .ret r12 =>
  some r12
 partial_fixpoint
def DM.l0 (x:List AB × AC × Int × Int × Int):Option (Lp (Unit) (Bool)) :=
 if(decide (x.2.2.2.2<(x.1.length:Int)))=true then
  (AX x.1 x.2.2.2.2)>>=fun (e2:AB) =>
  Dm (e2,x.2.1,x.2.2.1)>>=fun r4 =>
  if r4=true then
   DM.l0 (x.1,x.2.1,x.2.2.1,x.2.2.2.1,(w64 (x.2.2.2.2+1)))
  else
   Dm (e2,x.2.1,x.2.2.2.1)>>=fun r7 =>
   if r7=true then
    DM.l0 (x.1,x.2.1,x.2.2.1,x.2.2.2.1,(w64 (x.2.2.2.2+1)))
   else
    some (.ret false)
 else
  some (.brk ())
 partial_fixpoint
def Cy (x:List AB × AC):Option (Bool) :=
 Cy.l0 (x.1,x.2,0)>>=fun (o13:Lp (Unit) (Bool))=>match o13 with
 | .brk s16 =>
  some true
 | .ret r15 =>
  some r15
 partial_fixpoint
end
theorem Cy.l0.ws:PC Cy.l0 (fun x o=>∀ lo c (Q:EP) (hb:∀ s:Unit,o=Lp.brk s→Q (.exit 0) ⟨[],[]⟩) (hr:∀ (r:Bool) (L:AM),o=.ret r→DO Tryz.prog [.tmp 4] (.bool r) (fun _=>True) .ret L→Q .ret L),AJ Tryz.prog 160 lo c 0 (VQ Q) ⟨[(0,.v (.slice .foreign (x.1.map AB.av))),(1,.v (.w x.2.1)),(5,.v (.i64 x.2.2))],[]⟩)∧PC Dm (fun x r=>Fn Tryz.prog 164 [.agg (AB.C x.1),.w x.2.1,.i64 x.2.2] (.bool r))∧PC GU (fun x r=>Fn Tryz.prog 157 [.slice .foreign (x.1.map AB.av),.w x.2.1,.i64 x.2.2.1,.i64 x.2.2.2] (.bool r))∧PC Dr (fun x r=>Fn Tryz.prog 162 [.slice .foreign (x.1.map AB.av),.w x.2.1,.i64 x.2.2] (.bool r))∧PC Dr.l0 (fun x o=>∀ lo c (Q:EP) (hb:∀ s:Unit,o=Lp.brk s→Q (.exit 0) ⟨[],[]⟩) (hr:∀ (r:Bool) (L:AM),o=.ret r→DO Tryz.prog [.tmp 6] (.bool r) (fun _=>True) .ret L→Q .ret L),AJ Tryz.prog 162 lo c 0 (VQ Q) ⟨[(0,.v (.slice .foreign (x.1.map AB.av))),(1,.v (.w x.2.1)),(2,.v (.i64 x.2.2.1)),(7,.v (.i64 x.2.2.2))],[]⟩)∧PC DM (fun x r=>Fn Tryz.prog 161 [.slice .foreign (x.1.map AB.av),.w x.2.1,.i64 x.2.2.1,.i64 x.2.2.2] (.bool r))∧PC DM.l0 (fun x o=>∀ lo c (Q:EP) (hb:∀ s:Unit,o=Lp.brk s→Q (.exit 0) ⟨[],[]⟩) (hr:∀ (r:Bool) (L:AM),o=.ret r→DO Tryz.prog [.tmp 8] (.bool r) (fun _=>True) .ret L→Q .ret L),AJ Tryz.prog 161 lo c 0 (VQ Q) ⟨[(0,.v (.slice .foreign (x.1.map AB.av))),(1,.v (.w x.2.1)),(2,.v (.i64 x.2.2.1)),(3,.v (.i64 x.2.2.2.1)),(9,.v (.i64 x.2.2.2.2))],[]⟩)∧PC Cy (fun x r=>Fn Tryz.prog 160 [.slice .foreign (x.1.map AB.av),.w x.2] (.bool r)):=by
 refine Cy.l0.mutual_partial_correctness _ _ _ _ _ _ _ _ ?_ ?_ ?_ ?_ ?_ ?_ ?_ ?_
 ·intro Ja GW JB Fx x o h
  have Sx:AH Ja _:=⟨JB⟩
  have Md:AH GW _:=⟨Fx⟩
  intro lo c Q hb hr
  refine AJ.step mix AEj (by kernel_rfl) ?_
  simp -implicitDefEqProofs only[go_sem,Tryz.f160]
  exact AN
 ·intro GW WQ Fx Ub x r h
  have Md:AH GW _:=⟨Fx⟩
  have AH5:AH WQ _:=⟨Ub⟩
  refine Fn.of_lc mix AKW AJB (by rfl) (flC (AB.flatC _) (flC (.atom _) (flC (.atom _) (flN)))) (.atom _) ?_
  simp -implicitDefEqProofs only[go_sem,Tryz.f164]
  exact AN
 ·intro VM Uu Xu Up Sj Ve x r h
  have AI4:AH VM _:=⟨Up⟩
  have AHh:AH Uu _:=⟨Sj⟩
  have AJR:AH Xu _:=⟨Ve⟩
  refine Fn.of_lc mix ALf AIs (by rfl) (flC (AQ _ AB.flat _) (flC (.atom _) (flC (.atom _) (flC (.atom _) (flN))))) (.atom _) ?_
  simp -implicitDefEqProofs only[go_sem,Tryz.f157]
  exact AN
 ·intro Iq IT x r h
  have Rw:AH Iq _:=⟨IT⟩
  refine Fn.of_lc mix ADG AIz (by rfl) (flC (AQ _ AB.flat _) (flC (.atom _) (flC (.atom _) (flN)))) (.atom _) ?_
  simp -implicitDefEqProofs only[go_sem,Tryz.f162]
  exact AN
 ·intro GW Iq Fx IT x o h
  have Md:AH GW _:=⟨Fx⟩
  have Rw:AH Iq _:=⟨IT⟩
  intro lo c Q hb hr
  refine AJ.step mix ADG (by kernel_rfl) ?_
  simp -implicitDefEqProofs only[go_sem,Tryz.f162]
  exact AN
 ·intro IR Hz x r h
  have Pl:AH IR _:=⟨Hz⟩
  refine Fn.of_lc mix AD4 AIP (by rfl) (flC (AQ _ AB.flat _) (flC (.atom _) (flC (.atom _) (flC (.atom _) (flN))))) (.atom _) ?_
  simp -implicitDefEqProofs only[go_sem,Tryz.f161]
  exact AN
 ·intro GW IR Fx Hz x o h
  have Md:AH GW _:=⟨Fx⟩
  have Pl:AH IR _:=⟨Hz⟩
  intro lo c Q hb hr
  refine AJ.step mix AD4 (by kernel_rfl) ?_
  simp -implicitDefEqProofs only[go_sem,Tryz.f161]
  exact AN
 ·intro Ja JB x r h
  have Sx:AH Ja _:=⟨JB⟩
  refine Fn.of_lc mix AEj AIe (by rfl) (flC (AQ _ AB.flat _) (flC (.atom _) (flN))) (.atom _) ?_
  simp -implicitDefEqProofs only[go_sem,Tryz.f160]
  exact AN
instance GU.w:type_of% (AH.mk Cy.l0.ws.2.2.1):=⟨Cy.l0.ws.2.2.1⟩
end
section
theorem AHp:okF Tryz.f141=true:=by kernel_rfl
def Fl (x:List AB × AC):Option (Bool) :=
 GU (x.1,x.2,2,2)>>=fun r1 =>
 some (!r1)
instance Fl.w:AH Fl (fun x r=>Fn Tryz.prog 141 [.slice .foreign (x.1.map AB.av),.w x.2] (.bool r)):=⟨by
 intro x r h
 rw[Fl] at h
 try dsimp only
 refine Fn.of_lc mix AJc AHp (by rfl) (flC (AQ _ AB.flat _) (flC (.atom _) (flN))) (.atom _) ?_
 simp -implicitDefEqProofs only[go_sem,Tryz.f141]
 exact AN⟩
end
section
theorem DH {α β:Type} {m:Option α} {f:α→Option β} (h:∃ a,m=some a) (k:∀ a,∃ b,f a=some b):∃ b,(m>>=f)=some b:=by
 obtain⟨a,ha⟩:=h
 rw[ha];exact k a
theorem QE (x:Int × BV × BV):∃ b,Fm x=some b:=by
 unfold Fm
 have ht:∀ b,∃ r,Dt b=some r:=by
  intro b;unfold Dt
  repeat' first | exact⟨_,rfl⟩ | apply CI
 repeat' first | exact⟨_,rfl⟩ | apply CI | exact DH (ht _) fun _=>⟨_,rfl⟩
theorem Jy (x:BE × AC):∃ b,Fh x=some b:=by
 unfold Fh
 rw[Eb]
 refine CI (DH ⟨_,rfl⟩ fun _=>?_) ⟨_,rfl⟩
 exact CI ⟨_,rfl⟩ ⟨_,rfl⟩
theorem YX (l:List AB) (hl:l.length≤1000000) (s:AC) (h:∀ p∈l,∀ t,∃ b,Dm (p,s,t)=some b):∃ b,Cy (l,s)=some b:=by
 have key:∀ n i,l.length - i=n→i≤l.length→∃ o,Cy.l0 (l,s,(i:Int))=some o:=by
  intro n
  induction n with
  | zero=>intro i h1 h2;rw[Cy.l0,if_neg (dge (by dsimp only;omega))];exact⟨_,rfl⟩
  | succ n ih =>
   intro i h1 h2
   have hi:i<l.length:=by omega
   have hA:l.length - (i+1)=n:=by omega
   have hB:i+1≤l.length:=by omega
   rw[Cy.l0,if_pos (dlt (by dsimp only;omega))]
   dsimp only
   rw[Ag hi,AU (by omega)]
   simp -implicitDefEqProofs only[Option.bind_eq_bind,Option.bind_some]
   have hm:=h _ (List.getElem_mem hi)
   exact DH (hm 0) fun a=>CI (ih _ hA hB) (DH (hm 1) fun a=>CI (ih _ hA hB) (DH (hm 2) fun a=>CI (ih _ hA hB) ⟨_,rfl⟩))
 rw[Cy]
 obtain⟨o,ho⟩:=key _ 0 rfl (Nat.zero_le _)
 rw[show ((0:Nat):Int)=0 from rfl] at ho
 refine DH ⟨o,ho⟩ fun o=>?_
 cases o <;> exact⟨_,rfl⟩
theorem PH (l:List AB) (hl:l.length≤1000000) (s:AC) (t:Int) (h:∀ p∈l,∀ t,∃ b,Dm (p,s,t)=some b):∃ b,Dr (l,s,t)=some b:=by
 have key:∀ n i,l.length - i=n→i≤l.length→∃ o,Dr.l0 (l,s,t,(i:Int))=some o:=by
  intro n
  induction n with
  | zero=>intro i h1 h2;rw[Dr.l0,if_neg (dge (by dsimp only;omega))];exact⟨_,rfl⟩
  | succ n ih =>
   intro i h1 h2
   have hi:i<l.length:=by omega
   have hA:l.length - (i+1)=n:=by omega
   have hB:i+1≤l.length:=by omega
   rw[Dr.l0,if_pos (dlt (by dsimp only;omega))]
   dsimp only
   rw[Ag hi,AU (by omega)]
   simp -implicitDefEqProofs only[Option.bind_eq_bind,Option.bind_some]
   have hm:=h _ (List.getElem_mem hi)
   exact DH (hm t) fun a=>CI ⟨_,rfl⟩ (ih _ hA hB)
 rw[Dr]
 obtain⟨o,ho⟩:=key _ 0 rfl (Nat.zero_le _)
 rw[show ((0:Nat):Int)=0 from rfl] at ho
 refine DH ⟨o,ho⟩ fun o=>?_
 cases o <;> exact⟨_,rfl⟩
theorem Nf (l:List AB) (hl:l.length≤1000000) (s:AC) (t u:Int) (h:∀ p∈l,∀ t,∃ b,Dm (p,s,t)=some b):∃ b,DM (l,s,t,u)=some b:=by
 have key:∀ n i,l.length - i=n→i≤l.length→∃ o,DM.l0 (l,s,t,u,(i:Int))=some o:=by
  intro n
  induction n with
  | zero=>intro i h1 h2;rw[DM.l0,if_neg (dge (by dsimp only;omega))];exact⟨_,rfl⟩
  | succ n ih =>
   intro i h1 h2
   have hi:i<l.length:=by omega
   have hA:l.length - (i+1)=n:=by omega
   have hB:i+1≤l.length:=by omega
   rw[DM.l0,if_pos (dlt (by dsimp only;omega))]
   dsimp only
   rw[Ag hi,AU (by omega)]
   simp -implicitDefEqProofs only[Option.bind_eq_bind,Option.bind_some]
   have hm:=h _ (List.getElem_mem hi)
   exact DH (hm t) fun a=>CI (ih _ hA hB) (DH (hm u) fun a=>CI (ih _ hA hB) ⟨_,rfl⟩)
 rw[DM]
 obtain⟨o,ho⟩:=key _ 0 rfl (Nat.zero_le _)
 rw[show ((0:Nat):Int)=0 from rfl] at ho
 refine DH ⟨o,ho⟩ fun o=>?_
 cases o <;> exact⟨_,rfl⟩
theorem LU (l:List AB) (hl:l.length≤1000000) (s:AC) (t u:Int) (h:∀ p∈l,∀ t,∃ b,Dm (p,s,t)=some b):∃ b,GU (l,s,t,u)=some b:=by
 rw[GU]
 refine DH (YX l hl s h) fun a=>CI (CI (DH (Nf l hl s _ _ h) fun _=>⟨_,rfl⟩) (CI (DH (PH l hl s _ h) fun _=>CI (DH (Nf l hl s _ _ h) fun _=>⟨_,rfl⟩) ⟨_,rfl⟩) (DH (PH l hl s _ h) fun _=>⟨_,rfl⟩))) ⟨_,rfl⟩
theorem XI (p:AB):p.size≤1000000→∀ s t,∃ b,Dm (p,s,t)=some b:=by
 induction p using AB.induct with
 | h p ih =>
  intro hsz s t
  have hpl:=Jv p
  have hp:∀ x∈p.Parts,∀ t,∃ b,Dm (x,s,t)=some b:=fun x hx t=>ih x hx (by have:=Jo hx;omega) s t
  rw[Dm]
  dsimp only
  refine CI (CI ⟨_,rfl⟩ (CI (CI ⟨_,rfl⟩ ⟨_,rfl⟩) ⟨_,rfl⟩)) (CI (CI ⟨_,rfl⟩ (CI ⟨_,rfl⟩ (DH (Jy _) fun _=>CI ⟨_,rfl⟩ (DH (Jy _) fun _=>CI ⟨_,rfl⟩ (CI ⟨_,rfl⟩ (CI ⟨_,rfl⟩ (DH (QE _) fun _=>⟨_,rfl⟩))))))) (CI (DH (Jy _) fun _=>CI ⟨_,rfl⟩ (CI ⟨_,rfl⟩ (CI ⟨_,rfl⟩ ⟨_,rfl⟩))) (CI (DH (LU _ (by omega) _ _ _ hp) fun _=>⟨_,rfl⟩) (CI (DH (LU _ (by omega) _ _ _ hp) fun _=>⟨_,rfl⟩) (CI ?_ ⟨_,rfl⟩)))))
  by_cases h0:0<p.Parts.length
  ·rw[if_pos (by simp only[decide_eq_true_eq];omega),List.getElem?_eq_getElem h0]
   simp -implicitDefEqProofs only[Option.bind_eq_bind,Option.bind_some]
   exact DH (hp _ (List.getElem_mem h0) _) fun _=>⟨_,rfl⟩
  ·rw[if_neg (by simp only[decide_eq_true_eq];omega)];exact⟨_,rfl⟩
theorem QQ (l:List AB) (hl:l.length≤1000000) (hs:∀ p∈l,p.size≤1000000) (s:AC):∃ b,Fl (l,s)=some b:=by
 unfold Fl
 exact DH (LU l hl s _ _ fun p hp t=>XI p (hs p hp) s t) fun _=>⟨_,rfl⟩
end
section
@[go_sem] theorem ANr:lrp Tryz.prog 46 14=(12,[]):=by kernel_rfl
@[go_sem] theorem AN1:lrp Tryz.prog 46 19=(25,[]):=by kernel_rfl
@[go_sem] theorem ANt:lrp Tryz.prog 46 28=(16,[]):=by kernel_rfl
theorem AKV:okF Tryz.f46=true:=by kernel_rfl
def AP.l0 (x:List AA × List AC × Int × AG × AG):Option (List AC) :=
 if(decide (x.2.2.1<(x.1.length:Int)))=true then
  (AX x.1 x.2.2.1)>>=fun (e4:AA) =>
  if(decide (e4.Kind > 1))=true then
   (e4.Kids[1]?)>>=fun (e7:AA) =>
   An e7>>=fun r9 =>
   (room 8 x.2.1 ([r9]))>>=fun (z11:List AC) =>
   AP.l0 (x.1,z11,(w64 (x.2.2.1+1)),x.2.2.2.1,x.2.2.2.2)
  else
   AP.l0 (x.1,x.2.1,(w64 (x.2.2.1+1)),x.2.2.2.1,x.2.2.2.2)
 else
  some x.2.1
 partial_fixpoint
theorem AP.l0.ws:PC AP.l0 (fun x o=>∀ lo c (Q:EP) (hb:∀ s:List AC,o=s→Q (.exit 0) ⟨[(2,.lref 2 0),(3,.lref 3 0),(4,.v (.slice .foreign (x.1.map AA.av))),(5,.own 100500 1 (s.map AV.w))],[(2,[.own 20000200 17 (x.2.2.2.1.Joins.map AO.av),.own 20000201 6 (x.2.2.2.1.Ops.map AK.av)]),(3,[.own 20000300 17 (x.2.2.2.2.Joins.map AO.av),.own 20000301 6 (x.2.2.2.2.Ops.map AK.av)])]⟩),AJ Tryz.prog 46 lo c 0 (VQ Q) ⟨[(2,.lref 2 0),(3,.lref 3 0),(4,.v (.slice .foreign (x.1.map AA.av))),(5,.own 100500 1 (x.2.1.map AV.w)),(6,.v (.i64 x.2.2.1))],[(2,[.own 20000200 17 (x.2.2.2.1.Joins.map AO.av),.own 20000201 6 (x.2.2.2.1.Ops.map AK.av)]),(3,[.own 20000300 17 (x.2.2.2.2.Joins.map AO.av),.own 20000301 6 (x.2.2.2.2.Ops.map AK.av)])]⟩):=by
 refine AP.l0.partial_correctness _ ?_
 ·intro UW TF x o h
  have AG4:AH UW _:=⟨TF⟩
  intro lo c Q hb
  refine AJ.step mix UI (by kernel_rfl) ?_
  simp -implicitDefEqProofs only[go_sem,Tryz.f46]
  exact AN
instance AP.l0.w:type_of% (AH.mk AP.l0.ws):=⟨AP.l0.ws⟩
def AP.l2 (x:List AA × List AC × Int × AC × AC × Int × Int × AG × AG × AA):Option (Int) :=
 if(decide (x.2.2.2.2.2.2.1<(x.2.1.length:Int)))=true then
  (AX x.2.1 x.2.2.2.2.2.2.1)>>=fun (e28:AC) =>
  CH ((x.2.2.2.1|||x.2.2.2.2.1),e28)>>=fun r30 =>
  if r30=true then
   if(decide (x.2.2.2.2.2.1<0))=true then
    AP.l2 (x.1,x.2.1,x.2.2.1,x.2.2.2.1,x.2.2.2.2.1,x.2.2.2.2.2.2.1,(w64 (x.2.2.2.2.2.2.1+1)),x.2.2.2.2.2.2.2.1,x.2.2.2.2.2.2.2.2.1,x.2.2.2.2.2.2.2.2.2)
   else
    Da e28>>=fun r34 =>
    (AX x.2.1 x.2.2.2.2.2.1)>>=fun (e36:AC) =>
    Da e36>>=fun r38 =>
    if(decide (r34<r38))=true then
     AP.l2 (x.1,x.2.1,x.2.2.1,x.2.2.2.1,x.2.2.2.2.1,x.2.2.2.2.2.2.1,(w64 (x.2.2.2.2.2.2.1+1)),x.2.2.2.2.2.2.2.1,x.2.2.2.2.2.2.2.2.1,x.2.2.2.2.2.2.2.2.2)
    else
     AP.l2 (x.1,x.2.1,x.2.2.1,x.2.2.2.1,x.2.2.2.2.1,x.2.2.2.2.2.1,(w64 (x.2.2.2.2.2.2.1+1)),x.2.2.2.2.2.2.2.1,x.2.2.2.2.2.2.2.2.1,x.2.2.2.2.2.2.2.2.2)
  else
   AP.l2 (x.1,x.2.1,x.2.2.1,x.2.2.2.1,x.2.2.2.2.1,x.2.2.2.2.2.1,(w64 (x.2.2.2.2.2.2.1+1)),x.2.2.2.2.2.2.2.1,x.2.2.2.2.2.2.2.2.1,x.2.2.2.2.2.2.2.2.2)
 else
  some x.2.2.2.2.2.1
 partial_fixpoint
theorem AP.l2.ws:PC AP.l2 (fun x o=>∀ lo c (Q:EP) (hb:∀ s:Int,o=s→Q (.exit 4) ⟨[(2,.lref 2 0),(3,.lref 3 0),(4,.v (.slice .foreign (x.1.map AA.av))),(5,.own 100500 1 (x.2.1.map AV.w)),(7,.v (.i64 x.2.2.1)),(8,.lref 8 0),(9,.v (.w x.2.2.2.1)),(10,.v (.w x.2.2.2.2.1)),(11,.v (.i64 s))],[(2,[.own 20000200 17 (x.2.2.2.2.2.2.2.1.Joins.map AO.av),.own 20000201 6 (x.2.2.2.2.2.2.2.1.Ops.map AK.av)]),(3,[.own 20000300 17 (x.2.2.2.2.2.2.2.2.1.Joins.map AO.av),.own 20000301 6 (x.2.2.2.2.2.2.2.2.1.Ops.map AK.av)]),(8,[.v (.i64 x.2.2.2.2.2.2.2.2.2.Kind),.v (.i64 x.2.2.2.2.2.2.2.2.2.Table),.v (.slice .foreign (x.2.2.2.2.2.2.2.2.2.Kids.map AA.av)),.v (.slice .foreign (x.2.2.2.2.2.2.2.2.2.Conj.map AB.av)),.v (.bool x.2.2.2.2.2.2.2.2.2.Hash)])]⟩),AJ Tryz.prog 46 lo c 2 (VQ Q) ⟨[(2,.lref 2 0),(3,.lref 3 0),(4,.v (.slice .foreign (x.1.map AA.av))),(5,.own 100500 1 (x.2.1.map AV.w)),(7,.v (.i64 x.2.2.1)),(8,.lref 8 0),(9,.v (.w x.2.2.2.1)),(10,.v (.w x.2.2.2.2.1)),(11,.v (.i64 x.2.2.2.2.2.1)),(12,.v (.i64 x.2.2.2.2.2.2.1))],[(2,[.own 20000200 17 (x.2.2.2.2.2.2.2.1.Joins.map AO.av),.own 20000201 6 (x.2.2.2.2.2.2.2.1.Ops.map AK.av)]),(3,[.own 20000300 17 (x.2.2.2.2.2.2.2.2.1.Joins.map AO.av),.own 20000301 6 (x.2.2.2.2.2.2.2.2.1.Ops.map AK.av)]),(8,[.v (.i64 x.2.2.2.2.2.2.2.2.2.Kind),.v (.i64 x.2.2.2.2.2.2.2.2.2.Table),.v (.slice .foreign (x.2.2.2.2.2.2.2.2.2.Kids.map AA.av)),.v (.slice .foreign (x.2.2.2.2.2.2.2.2.2.Conj.map AB.av)),.v (.bool x.2.2.2.2.2.2.2.2.2.Hash)])]⟩):=by
 refine AP.l2.partial_correctness _ ?_
 ·intro Tq Td x o h
  have AHc:AH Tq _:=⟨Td⟩
  intro lo c Q hb
  refine AJ.step mix UI (by kernel_rfl) ?_
  simp -implicitDefEqProofs only[go_sem,Tryz.f46]
  exact AN
instance AP.l2.w:type_of% (AH.mk AP.l2.ws):=⟨AP.l2.ws⟩
def AP.l3 (x:List AA × List AC × Int × AC × AC × Int × AC × Int × AG × AG × AA):Option (AC × AG) :=
 if(decide (x.2.2.2.2.2.2.2.1<(x.2.2.2.2.2.2.2.2.2.2.Conj.length:Int)))=true then
  (AX x.2.2.2.2.2.2.2.2.2.2.Conj x.2.2.2.2.2.2.2.1)>>=fun (e44:AB) =>
  BY e44>>=fun r46 =>
  if(x.2.2.2.2.2.2.2.2.2.2.Kind == 1)=true then
   (room 152 x.2.2.2.2.2.2.2.2.2.1.Joins ([(⟨e44,(r46&&&x.2.2.2.1),(r46&&&x.2.2.2.2.1),x.2.2.2.2.2.1⟩:AO)]))>>=fun (z49:List AO) =>
   AP.l3 (x.1,x.2.1,x.2.2.1,x.2.2.2.1,x.2.2.2.2.1,x.2.2.2.2.2.1,(x.2.2.2.2.2.2.1|||r46),(w64 (x.2.2.2.2.2.2.2.1+1)),x.2.2.2.2.2.2.2.2.1,(⟨z49,x.2.2.2.2.2.2.2.2.2.1.Ops⟩:AG),x.2.2.2.2.2.2.2.2.2.2)
  else
   AP.l3 (x.1,x.2.1,x.2.2.1,x.2.2.2.1,x.2.2.2.2.1,x.2.2.2.2.2.1,(x.2.2.2.2.2.2.1|||r46),(w64 (x.2.2.2.2.2.2.2.1+1)),x.2.2.2.2.2.2.2.2.1,x.2.2.2.2.2.2.2.2.2.1,x.2.2.2.2.2.2.2.2.2.2)
 else
  some (x.2.2.2.2.2.2.1,x.2.2.2.2.2.2.2.2.2.1)
 partial_fixpoint
theorem AP.l3.ws:PC AP.l3 (fun x o=>∀ lo c (Q:EP) (hb:∀ s:AC × AG,o=s→Q (.exit 6) ⟨[(2,.lref 2 0),(3,.lref 3 0),(4,.v (.slice .foreign (x.1.map AA.av))),(5,.own 100500 1 (x.2.1.map AV.w)),(7,.v (.i64 x.2.2.1)),(8,.lref 8 0),(9,.v (.w x.2.2.2.1)),(10,.v (.w x.2.2.2.2.1)),(11,.v (.i64 x.2.2.2.2.2.1)),(13,.v (.w s.1))],[(2,[.own 20000200 17 (x.2.2.2.2.2.2.2.2.1.Joins.map AO.av),.own 20000201 6 (x.2.2.2.2.2.2.2.2.1.Ops.map AK.av)]),(3,[.own 20000300 17 (s.2.Joins.map AO.av),.own 20000301 6 (s.2.Ops.map AK.av)]),(8,[.v (.i64 x.2.2.2.2.2.2.2.2.2.2.Kind),.v (.i64 x.2.2.2.2.2.2.2.2.2.2.Table),.v (.slice .foreign (x.2.2.2.2.2.2.2.2.2.2.Kids.map AA.av)),.v (.slice .foreign (x.2.2.2.2.2.2.2.2.2.2.Conj.map AB.av)),.v (.bool x.2.2.2.2.2.2.2.2.2.2.Hash)])]⟩),AJ Tryz.prog 46 lo c 3 (VQ Q) ⟨[(2,.lref 2 0),(3,.lref 3 0),(4,.v (.slice .foreign (x.1.map AA.av))),(5,.own 100500 1 (x.2.1.map AV.w)),(7,.v (.i64 x.2.2.1)),(8,.lref 8 0),(9,.v (.w x.2.2.2.1)),(10,.v (.w x.2.2.2.2.1)),(11,.v (.i64 x.2.2.2.2.2.1)),(13,.v (.w x.2.2.2.2.2.2.1)),(14,.v (.i64 x.2.2.2.2.2.2.2.1))],[(2,[.own 20000200 17 (x.2.2.2.2.2.2.2.2.1.Joins.map AO.av),.own 20000201 6 (x.2.2.2.2.2.2.2.2.1.Ops.map AK.av)]),(3,[.own 20000300 17 (x.2.2.2.2.2.2.2.2.2.1.Joins.map AO.av),.own 20000301 6 (x.2.2.2.2.2.2.2.2.2.1.Ops.map AK.av)]),(8,[.v (.i64 x.2.2.2.2.2.2.2.2.2.2.Kind),.v (.i64 x.2.2.2.2.2.2.2.2.2.2.Table),.v (.slice .foreign (x.2.2.2.2.2.2.2.2.2.2.Kids.map AA.av)),.v (.slice .foreign (x.2.2.2.2.2.2.2.2.2.2.Conj.map AB.av)),.v (.bool x.2.2.2.2.2.2.2.2.2.2.Hash)])]⟩):=by
 refine AP.l3.partial_correctness _ ?_
 ·intro UP TA x o h
  have AHE:AH UP _:=⟨TA⟩
  intro lo c Q hb
  refine AJ.step mix UI (by kernel_rfl) ?_
  simp -implicitDefEqProofs only[go_sem,Tryz.f46]
  exact AN
instance AP.l3.w:type_of% (AH.mk AP.l3.ws):=⟨AP.l3.ws⟩
def AP.l1 (x:List AA × List AC × Int × AG × AG):Option (AG) :=
 if(decide (x.2.2.1<(x.1.length:Int)))=true then
  (AX x.1 x.2.2.1)>>=fun (e16:AA) =>
  if(e16.Kind == 0)=true then
   AP.l1 (x.1,x.2.1,(w64 (x.2.2.1+1)),x.2.2.2.1,x.2.2.2.2)
  else
   (e16.Kids[0]?)>>=fun (e19:AA) =>
   An e19>>=fun r21 =>
   (e16.Kids[1]?)>>=fun (e23:AA) =>
   An e23>>=fun r25 =>
   AP.l2 (x.1,x.2.1,x.2.2.1,r21,r25, -1,0,x.2.2.2.1,x.2.2.2.2,e16)>>=fun (o41:Int) =>
   AP.l3 (x.1,x.2.1,x.2.2.1,r21,r25,o41,0#64,0,x.2.2.2.1,x.2.2.2.2,e16)>>=fun (o51:AC × AG) =>
   if(decide (e16.Kind > 1))=true then
    (room 64 o51.2.Ops ([(⟨e16.Kind,e16.Conj,(o51.1&&&r21),(o51.1&&&r25),r25,o41⟩:AK)]))>>=fun (z54:List AK) =>
    AP.l1 (x.1,x.2.1,(w64 (x.2.2.1+1)),x.2.2.2.1,(⟨o51.2.Joins,z54⟩:AG))
   else
    AP.l1 (x.1,x.2.1,(w64 (x.2.2.1+1)),x.2.2.2.1,o51.2)
 else
  some x.2.2.2.2
 partial_fixpoint
theorem AP.l1.ws:PC AP.l1 (fun x o=>∀ lo c (Q:EP) (hb:∀ s:AG,o=s→Q (.exit 2) ⟨[(2,.lref 2 0),(3,.lref 3 0)],[(2,[.own 20000200 17 (x.2.2.2.1.Joins.map AO.av),.own 20000201 6 (x.2.2.2.1.Ops.map AK.av)]),(3,[.own 20000300 17 (s.Joins.map AO.av),.own 20000301 6 (s.Ops.map AK.av)])]⟩),AJ Tryz.prog 46 lo c 1 (VQ Q) ⟨[(2,.lref 2 0),(3,.lref 3 0),(4,.v (.slice .foreign (x.1.map AA.av))),(5,.own 100500 1 (x.2.1.map AV.w)),(7,.v (.i64 x.2.2.1))],[(2,[.own 20000200 17 (x.2.2.2.1.Joins.map AO.av),.own 20000201 6 (x.2.2.2.1.Ops.map AK.av)]),(3,[.own 20000300 17 (x.2.2.2.2.Joins.map AO.av),.own 20000301 6 (x.2.2.2.2.Ops.map AK.av)])]⟩):=by
 refine AP.l1.partial_correctness _ ?_
 ·intro Uo Ta x o h
  have AHA:AH Uo _:=⟨Ta⟩
  intro lo c Q hb
  refine AJ.step mix UI (by kernel_rfl) ?_
  simp -implicitDefEqProofs only[go_sem,Tryz.f46]
  exact AN
instance AP.l1.w:type_of% (AH.mk AP.l1.ws):=⟨AP.l1.ws⟩
def AP (x:AA):Option (AG) :=
 CS x>>=fun r1 =>
 AP.l0 (r1,([]:List AC),0,(⟨[],[]⟩:AG),(⟨[],[]⟩:AG))>>=fun (o13:List AC) =>
 AP.l1 (r1,o13,0,(⟨[],[]⟩:AG),(⟨[],[]⟩:AG))>>=fun (o56:AG) =>
 some o56
instance AP.w:AH AP (fun x r=>Fn Tryz.prog 46 [.agg (AA.C x)] (.agg (AG.C r))):=⟨by
 intro x r h
 rw[AP] at h
 try dsimp only
 refine Fn.of_lc mix UI AKV (by rfl) (flC (AA.flatC _) (flN)) (AG.flatC _) ?_
 simp -implicitDefEqProofs only[go_sem,Tryz.f46]
 exact AN⟩
end
section
theorem AHk:okF Tryz.f115=true:=by kernel_rfl
def GA (x:AK):Option (Bool) :=
 if(x.Kind == 2)=true then
  Fl (x.Conj,x.Left)>>=fun r2 =>
  some r2
 else
  some false
instance GA.w:AH GA (fun x r=>Fn Tryz.prog 115 [.agg (AK.C x)] (.bool r)):=⟨by
 intro x r h
 rw[GA] at h
 try dsimp only
 refine Fn.of_lc mix AKi AHk (by rfl) (flC (AK.flatC _) (flN)) (.atom _) ?_
 simp -implicitDefEqProofs only[go_sem,Tryz.f115]
 exact AN⟩
end
section
theorem AIq:okF Tryz.f117=true:=by kernel_rfl
def Cn.l0 (x:List Int × Int × Int):Option (Lp (Unit) (Bool)) :=
 if(decide (x.2.2<(x.1.length:Int)))=true then
  (AX x.1 x.2.2)>>=fun (e2:Int) =>
  if(e2 == x.2.1)=true then
   some (.ret true)
  else
   Cn.l0 (x.1,x.2.1,(w64 (x.2.2+1)))
 else
  some (.brk ())
 partial_fixpoint
theorem Cn.l0.ws:PC Cn.l0 (fun x o=>∀ lo c (Q:EP) (hb:∀ s:Unit,o=Lp.brk s→Q (.exit 0) ⟨[],[]⟩) (hr:∀ (r:Bool) (L:AM),o=.ret r→DO Tryz.prog [.tmp 4] (.bool r) (fun _=>True) .ret L→Q .ret L),AJ Tryz.prog 117 lo c 0 (VQ Q) ⟨[(0,.v (.slice .foreign (x.1.map AV.i64))),(1,.v (.i64 x.2.1)),(5,.v (.i64 x.2.2))],[]⟩):=by
 refine Cn.l0.partial_correctness _ ?_
 ·intro Ss SA x o h
  have AFn:AH Ss _:=⟨SA⟩
  intro lo c Q hb hr
  refine AJ.step mix AEE (by kernel_rfl) ?_
  simp -implicitDefEqProofs only[go_sem,Tryz.f117]
  exact AN
instance Cn.l0.w:type_of% (AH.mk Cn.l0.ws):=⟨Cn.l0.ws⟩
def Cn (x:List Int × Int):Option (Bool) :=
 Cn.l0 (x.1,x.2,0)>>=fun (o5:Lp (Unit) (Bool))=>match o5 with
 | .brk s8 =>
  some false
 | .ret r7 =>
  some r7
instance Cn.w:AH Cn (fun x r=>Fn Tryz.prog 117 [.slice .foreign (x.1.map AV.i64),.i64 x.2] (.bool r)):=⟨by
 intro x r h
 rw[Cn] at h
 try dsimp only
 refine Fn.of_lc mix AEE AIq (by rfl) (flC (AQ _ (fun _=>.atom _) _) (flC (.atom _) (flN))) (.atom _) ?_
 simp -implicitDefEqProofs only[go_sem,Tryz.f117]
 exact AN⟩
end
section
@[go_sem] theorem AMP:lrp Tryz.prog 118 12=(29,[]):=by kernel_rfl
theorem AIp:okF Tryz.f118=true:=by kernel_rfl
def Aw.l0 (x:Int × Int × List Int × List Int × AC × Int × AG):Option (Lp (Unit) (Bool)) :=
 if(decide (x.2.2.2.2.2.1<(x.2.2.2.2.2.2.Joins.length:Int)))=true then
  (AX x.2.2.2.2.2.2.Joins x.2.2.2.2.2.1)>>=fun (e8:AO) =>
  if(e8.Home == x.1)=true then
   if((x.2.2.2.2.1&&&e8.Left) != 0#64)=true then
    some (.ret false)
   else
    if((x.2.2.2.2.1&&&e8.Right) != 0#64)=true then
     some (.ret false)
    else
     Aw.l0 (x.1,x.2.1,x.2.2.1,x.2.2.2.1,x.2.2.2.2.1,(w64 (x.2.2.2.2.2.1+1)),x.2.2.2.2.2.2)
  else
   Aw.l0 (x.1,x.2.1,x.2.2.1,x.2.2.2.1,x.2.2.2.2.1,(w64 (x.2.2.2.2.2.1+1)),x.2.2.2.2.2.2)
 else
  some (.brk ())
 partial_fixpoint
theorem Aw.l0.ws:PC Aw.l0 (fun x o=>∀ lo c (Q:EP) (hb:∀ s:Unit,o=Lp.brk s→Q (.exit 0) ⟨[(2,.v (.i64 x.2.1)),(3,.v (.slice .foreign (x.2.2.1.map AV.i64))),(4,.v (.slice .foreign (x.2.2.2.1.map AV.i64))),(5,.lref 5 0),(11,.v (.w x.2.2.2.2.1))],[(5,[.v (.slice .foreign (x.2.2.2.2.2.2.Joins.map AO.av)),.v (.slice .foreign (x.2.2.2.2.2.2.Ops.map AK.av))])]⟩) (hr:∀ (r:Bool) (L:AM),o=.ret r→DO Tryz.prog [.tmp 10] (.bool r) (fun _=>True) .ret L→Q .ret L),AJ Tryz.prog 118 lo c 0 (VQ Q) ⟨[(1,.v (.i64 x.1)),(2,.v (.i64 x.2.1)),(3,.v (.slice .foreign (x.2.2.1.map AV.i64))),(4,.v (.slice .foreign (x.2.2.2.1.map AV.i64))),(5,.lref 5 0),(11,.v (.w x.2.2.2.2.1)),(12,.v (.i64 x.2.2.2.2.2.1))],[(5,[.v (.slice .foreign (x.2.2.2.2.2.2.Joins.map AO.av)),.v (.slice .foreign (x.2.2.2.2.2.2.Ops.map AK.av))])]⟩):=by
 refine Aw.l0.partial_correctness _ ?_
 ·intro SL Po x o h
  have AFO:AH SL _:=⟨Po⟩
  intro lo c Q hb hr
  refine AJ.step mix Yk (by kernel_rfl) ?_
  simp -implicitDefEqProofs only[go_sem,Tryz.f118]
  exact AN
instance Aw.l0.w:type_of% (AH.mk Aw.l0.ws):=⟨Aw.l0.ws⟩
def Aw.l1 (x:Int × List Int × List Int × AC × Int × AG):Option (Lp (Unit) (Bool)) :=
 if(decide (x.2.2.2.2.1<(x.2.1.length:Int)))=true then
  (AX x.2.1 x.2.2.2.2.1)>>=fun (e18:Int) =>
  if(e18 != x.1)=true then
   Cn (x.2.2.1,e18)>>=fun r21 =>
   if r21=true then
    Aw.l1 (x.1,x.2.1,x.2.2.1,x.2.2.2.1,(w64 (x.2.2.2.2.1+1)),x.2.2.2.2.2)
   else
    (AX x.2.2.2.2.2.Ops e18)>>=fun (e24:AK) =>
    if((x.2.2.2.1&&&e24.Left) != 0#64)=true then
     some (.ret false)
    else
     Aw.l1 (x.1,x.2.1,x.2.2.1,x.2.2.2.1,(w64 (x.2.2.2.2.1+1)),x.2.2.2.2.2)
  else
   Aw.l1 (x.1,x.2.1,x.2.2.1,x.2.2.2.1,(w64 (x.2.2.2.2.1+1)),x.2.2.2.2.2)
 else
  some (.brk ())
 partial_fixpoint
theorem Aw.l1.ws:PC Aw.l1 (fun x o=>∀ lo c (Q:EP) (hb:∀ s:Unit,o=Lp.brk s→Q (.exit 2) ⟨[],[]⟩) (hr:∀ (r:Bool) (L:AM),o=.ret r→DO Tryz.prog [.tmp 10] (.bool r) (fun _=>True) .ret L→Q .ret L),AJ Tryz.prog 118 lo c 1 (VQ Q) ⟨[(2,.v (.i64 x.1)),(3,.v (.slice .foreign (x.2.1.map AV.i64))),(4,.v (.slice .foreign (x.2.2.1.map AV.i64))),(5,.lref 5 0),(11,.v (.w x.2.2.2.1)),(13,.v (.i64 x.2.2.2.2.1))],[(5,[.v (.slice .foreign (x.2.2.2.2.2.Joins.map AO.av)),.v (.slice .foreign (x.2.2.2.2.2.Ops.map AK.av))])]⟩):=by
 refine Aw.l1.partial_correctness _ ?_
 ·intro RZ QL x o h
  have AFN:AH RZ _:=⟨QL⟩
  intro lo c Q hb hr
  refine AJ.step mix Yk (by kernel_rfl) ?_
  simp -implicitDefEqProofs only[go_sem,Tryz.f118]
  exact AN
instance Aw.l1.w:type_of% (AH.mk Aw.l1.ws):=⟨Aw.l1.ws⟩
def Aw (x:AG × Int × Int × List Int × List Int):Option (Bool) :=
 (AX x.1.Ops x.2.2.1)>>=fun (e1:AK) =>
 (AX x.1.Ops x.2.1)>>=fun (e3:AK) =>
 if((e1.Own&&&e3.Left) != 0#64)=true then
  some false
 else
  if((e1.Own&&&e3.Right) != 0#64)=true then
   some false
  else
   Aw.l0 (x.2.1,x.2.2.1,x.2.2.2.1,x.2.2.2.2,e1.Own,0,x.1)>>=fun (o13:Lp (Unit) (Bool))=>match o13 with
   | .brk s16 =>
    Aw.l1 (x.2.2.1,x.2.2.2.1,x.2.2.2.2,e1.Own,0,x.1)>>=fun (o27:Lp (Unit) (Bool))=>match o27 with
    | .brk s30 =>
     some true
    | .ret r29 =>
     some r29
   | .ret r15 =>
    some r15
instance Aw.w:AH Aw (fun x r=>Fn Tryz.prog 118 [.agg (AG.C x.1),.i64 x.2.1,.i64 x.2.2.1,.slice .foreign (x.2.2.2.1.map AV.i64),.slice .foreign (x.2.2.2.2.map AV.i64)] (.bool r)):=⟨by
 intro x r h
 rw[Aw] at h
 try dsimp only
 refine Fn.of_lc mix Yk AIp (by rfl) (flC (AG.flatC _) (flC (.atom _) (flC (.atom _) (flC (AQ _ (fun _=>.atom _) _) (flC (AQ _ (fun _=>.atom _) _) (flN)))))) (.atom _) ?_
 simp -implicitDefEqProofs only[go_sem,Tryz.f118]
 exact AN⟩
end
section
theorem AJn:okF Tryz.f87=true:=by kernel_rfl
def AZ.l2 (x:Int × List Int × List Int × List Int × Int × AG):Option (List Int) :=
 if(decide (x.2.2.2.2.1<(x.2.2.2.2.2.Ops.length:Int)))=true then
  Cn (x.2.2.1,x.2.2.2.2.1)>>=fun r26 =>
  if r26=true then
   Aw (x.2.2.2.2.2,x.1,x.2.2.2.2.1,x.2.1,x.2.2.1)>>=fun r29 =>
   if r29=true then
    (room 8 x.2.2.2.1 ([x.2.2.2.2.1]))>>=fun (z32:List Int) =>
    AZ.l2 (x.1,x.2.1,x.2.2.1,z32,(w64 (x.2.2.2.2.1+1)),x.2.2.2.2.2)
   else
    AZ.l2 (x.1,x.2.1,x.2.2.1,x.2.2.2.1,(w64 (x.2.2.2.2.1+1)),x.2.2.2.2.2)
  else
   AZ.l2 (x.1,x.2.1,x.2.2.1,x.2.2.2.1,(w64 (x.2.2.2.2.1+1)),x.2.2.2.2.2)
 else
  some x.2.2.2.1
 partial_fixpoint
theorem AZ.l2.ws:PC AZ.l2 (fun x o=>∀ lo c (Q:EP) (hb:∀ s:List Int,o=s→Q (.exit 4) ⟨[(1,.v (.i64 x.1)),(2,.lref 2 0),(5,.own 100500 1 (x.2.1.map AV.i64)),(6,.own 100600 1 (x.2.2.1.map AV.i64)),(9,.own 100900 1 (s.map AV.i64))],[(2,[.v (.slice .foreign (x.2.2.2.2.2.Joins.map AO.av)),.v (.slice .foreign (x.2.2.2.2.2.Ops.map AK.av))])]⟩),AJ Tryz.prog 87 lo c 2 (VQ Q) ⟨[(1,.v (.i64 x.1)),(2,.lref 2 0),(5,.own 100500 1 (x.2.1.map AV.i64)),(6,.own 100600 1 (x.2.2.1.map AV.i64)),(9,.own 100900 1 (x.2.2.2.1.map AV.i64)),(10,.v (.i64 x.2.2.2.2.1))],[(2,[.v (.slice .foreign (x.2.2.2.2.2.Joins.map AO.av)),.v (.slice .foreign (x.2.2.2.2.2.Ops.map AK.av))])]⟩):=by
 refine AZ.l2.partial_correctness _ ?_
 ·intro Rt Pn x o h
  have AFa:AH Rt _:=⟨Pn⟩
  intro lo c Q hb
  refine AJ.step mix YD (by kernel_rfl) ?_
  simp -implicitDefEqProofs only[go_sem,Tryz.f87]
  exact AN
instance AZ.l2.w:type_of% (AH.mk AZ.l2.ws):=⟨AZ.l2.ws⟩
def AZ.l1 (x:Int × List Int × List Int × AG):Option (List Int) :=
 AZ.l2 (x.1,x.2.1,x.2.2.1,([]:List Int),0,x.2.2.2)>>=fun (o34:List Int) =>
 if((o34.length:Int) == (x.2.2.1.length:Int))=true then
  some o34
 else
  AZ.l1 (x.1,x.2.1,o34,x.2.2.2)
 partial_fixpoint
theorem AZ.l1.ws:PC AZ.l1 (fun x o=>∀ lo c (Q:EP) (hr:∀ (L:AM),DO Tryz.prog [.tmp 4] (.slice .foreign (o.map AV.i64)) (fun _=>True) .ret L→Q .ret L),AJ Tryz.prog 87 lo c 1 (VQ Q) ⟨[(1,.v (.i64 x.1)),(2,.lref 2 0),(5,.own 100500 1 (x.2.1.map AV.i64)),(6,.own 100600 1 (x.2.2.1.map AV.i64))],[(2,[.v (.slice .foreign (x.2.2.2.Joins.map AO.av)),.v (.slice .foreign (x.2.2.2.Ops.map AK.av))])]⟩):=by
 refine AZ.l1.partial_correctness _ ?_
 ·intro SJ QW x o h
  have AFC:AH SJ _:=⟨QW⟩
  intro lo c Q hr
  refine AJ.step mix YD (by kernel_rfl) ?_
  simp -implicitDefEqProofs only[go_sem,Tryz.f87]
  exact AN
instance AZ.l1.w:type_of% (AH.mk AZ.l1.ws):=⟨AZ.l1.ws⟩
mutual
def AZ.l0 (x:Int × List Int × List Int × Int × AG):Option (List Int × List Int) :=
 if(decide (x.2.2.2.1<(x.2.2.2.2.Ops.length:Int)))=true then
  (AX x.2.2.2.2.Ops x.2.2.2.1)>>=fun (e7:AK) =>
  if(e7.Home != x.1)=true then
   AZ.l0 (x.1,x.2.1,x.2.2.1,(w64 (x.2.2.2.1+1)),x.2.2.2.2)
  else
   AZ (x.2.2.2.2,x.2.2.2.1)>>=fun r10 =>
   (room 8 x.2.1 ([x.2.2.2.1]))>>=fun (z12:List Int) =>
   (room 8 z12 r10)>>=fun (z14:List Int) =>
   (room 8 x.2.2.1 r10)>>=fun (z16:List Int) =>
   GA e7>>=fun r18 =>
   if r18=true then
    (room 8 z16 ([x.2.2.2.1]))>>=fun (z21:List Int) =>
    AZ.l0 (x.1,z14,z21,(w64 (x.2.2.2.1+1)),x.2.2.2.2)
   else
    AZ.l0 (x.1,z14,z16,(w64 (x.2.2.2.1+1)),x.2.2.2.2)
 else
  some (x.2.1,x.2.2.1)
 partial_fixpoint
def AZ (x:AG × Int):Option (List Int) :=
 if(decide (x.2<0))=true then
  some ([]:List Int)
 else
  if(decide (x.2 ≥ (x.1.Ops.length:Int)))=true then
   some ([]:List Int)
  else
   (AX x.1.Ops x.2)>>=fun (e3:AK) =>
   if(e3.Kind != 2)=true then
    some ([]:List Int)
   else
    AZ.l0 (x.2,([]:List Int),([]:List Int),0,x.1)>>=fun (o23:List Int × List Int) =>
    AZ.l1 (x.2,o23.1,o23.2,x.1)>>=fun (o37:List Int) =>
    some o37
 partial_fixpoint
end
theorem AZ.l0.ws:PC AZ.l0 (fun x o=>∀ lo c (Q:EP) (hb:∀ s:List Int × List Int,o=s→Q (.exit 0) ⟨[(1,.v (.i64 x.1)),(2,.lref 2 0),(5,.own 100500 1 (s.1.map AV.i64)),(6,.own 100600 1 (s.2.map AV.i64))],[(2,[.v (.slice .foreign (x.2.2.2.2.Joins.map AO.av)),.v (.slice .foreign (x.2.2.2.2.Ops.map AK.av))])]⟩),AJ Tryz.prog 87 lo c 0 (VQ Q) ⟨[(1,.v (.i64 x.1)),(2,.lref 2 0),(5,.own 100500 1 (x.2.1.map AV.i64)),(6,.own 100600 1 (x.2.2.1.map AV.i64)),(7,.v (.i64 x.2.2.2.1))],[(2,[.v (.slice .foreign (x.2.2.2.2.Joins.map AO.av)),.v (.slice .foreign (x.2.2.2.2.Ops.map AK.av))])]⟩)∧PC AZ (fun x r=>Fn Tryz.prog 87 [.agg (AG.C x.1),.i64 x.2] (.slice .foreign (r.map AV.i64))):=by
 refine AZ.l0.mutual_partial_correctness _ _ ?_ ?_
 ·intro Iv WD IX UR x o h
  have Rm:AH Iv _:=⟨IX⟩
  have AIK:AH WD _:=⟨UR⟩
  intro lo c Q hb
  refine AJ.step mix YD (by kernel_rfl) ?_
  simp -implicitDefEqProofs only[go_sem,Tryz.f87]
  exact AN
 ·intro Iv IX x r h
  have Rm:AH Iv _:=⟨IX⟩
  refine Fn.of_lc mix YD AJn (by rfl) (flC (AG.flatC _) (flC (.atom _) (flN))) (AQ _ (fun _=>.atom _) _) ?_
  simp -implicitDefEqProofs only[go_sem,Tryz.f87]
  exact AN
instance AZ.w:type_of% (AH.mk AZ.l0.ws.2):=⟨AZ.l0.ws.2⟩
end
section
@[go_sem] theorem AOk:lrp Tryz.prog 48 8=(12,[]):=by kernel_rfl
theorem ALD:okF Tryz.f48=true:=by kernel_rfl
def Ce.l0 (x:AC × List Int × Int × AG):Option (AC) :=
 if(decide (x.2.2.1<(x.2.1.length:Int)))=true then
  (AX x.2.1 x.2.2.1)>>=fun (e8:Int) =>
  (AX x.2.2.2.Ops e8)>>=fun (e10:AK) =>
  Ce.l0 ((x.1&&&~~~e10.Own),x.2.1,(w64 (x.2.2.1+1)),x.2.2.2)
 else
  some x.1
 partial_fixpoint
theorem Ce.l0.ws:PC Ce.l0 (fun x o=>∀ lo c (Q:EP) (hb:∀ s:AC,o=s→Q (.exit 0) ⟨[(5,.v (.w s))],[]⟩),AJ Tryz.prog 48 lo c 0 (VQ Q) ⟨[(2,.lref 2 0),(5,.v (.w x.1)),(6,.v (.slice .foreign (x.2.1.map AV.i64))),(7,.v (.i64 x.2.2.1))],[(2,[.v (.slice .foreign (x.2.2.2.Joins.map AO.av)),.v (.slice .foreign (x.2.2.2.Ops.map AK.av))])]⟩):=by
 refine Ce.l0.partial_correctness _ ?_
 ·intro Rs Pq x o h
  have AFQ:AH Rs _:=⟨Pq⟩
  intro lo c Q hb
  refine AJ.step mix AHI (by kernel_rfl) ?_
  simp -implicitDefEqProofs only[go_sem,Tryz.f48]
  exact AN
instance Ce.l0.w:type_of% (AH.mk Ce.l0.ws):=⟨Ce.l0.ws⟩
def Ce (x:AG × Int):Option (AC) :=
 if(decide (x.2<0))=true then
  some (0#64)
 else
  if(decide (x.2 ≥ (x.1.Ops.length:Int)))=true then
   some (0#64)
  else
   (AX x.1.Ops x.2)>>=fun (e3:AK) =>
   AZ (x.1,x.2)>>=fun r5 =>
   Ce.l0 (e3.Own,r5,0,x.1)>>=fun (o12:AC) =>
   some o12
instance Ce.w:AH Ce (fun x r=>Fn Tryz.prog 48 [.agg (AG.C x.1),.i64 x.2] (.w r)):=⟨by
 intro x r h
 rw[Ce] at h
 try dsimp only
 refine Fn.of_lc mix AHI ALD (by rfl) (flC (AG.flatC _) (flC (.atom _) (flN))) (.atom _) ?_
 simp -implicitDefEqProofs only[go_sem,Tryz.f48]
 exact AN⟩
end
section
theorem ALh:okF Tryz.f86=true:=by kernel_rfl
def Dc (x:AG × Int × Int):Option (Bool) :=
 if(decide (x.2.1<0))=true then
  some false
 else
  if(decide (x.2.1 ≥ (x.1.Ops.length:Int)))=true then
   some false
  else
   (AX x.1.Ops x.2.1)>>=fun (e3:AK) =>
   if(e3.Home == x.2.2)=true then
    some true
   else
    Dc (x.1,e3.Home,x.2.2)>>=fun r6 =>
    some r6
 partial_fixpoint
theorem Dc.ws:PC Dc (fun x r=>Fn Tryz.prog 86 [.agg (AG.C x.1),.i64 x.2.1,.i64 x.2.2] (.bool r)):=by
 refine Dc.partial_correctness _ ?_
 ·intro TH SD x r h
  have AGw:AH TH _:=⟨SD⟩
  refine Fn.of_lc mix AMH ALh (by rfl) (flC (AG.flatC _) (flC (.atom _) (flC (.atom _) (flN)))) (.atom _) ?_
  simp -implicitDefEqProofs only[go_sem,Tryz.f86]
  exact AN
instance Dc.w:type_of% (AH.mk Dc.ws):=⟨Dc.ws⟩
end
section
@[go_sem] theorem AOV:lrp Tryz.prog 47 6=(13,[]):=by kernel_rfl
theorem ALP:okF Tryz.f47=true:=by kernel_rfl
def Aq.l1 (x:Int × AC × AC × Int × AG):Option (AC) :=
 if(decide (x.2.2.2.1<(x.2.2.2.2.Ops.length:Int)))=true then
  Dc (x.2.2.2.2,x.2.2.2.1,x.1)>>=fun r2 =>
  if r2=true then
   (AX x.2.2.2.2.Ops x.2.2.2.1)>>=fun (e5:AK) =>
   if((e5.Own&&&x.2.1) != 0#64)=true then
    Ce (x.2.2.2.2,x.2.2.2.1)>>=fun r8 =>
    Aq.l1 (x.1,((x.2.1|||r8)|||e5.Left),x.2.2.1,(w64 (x.2.2.2.1+1)),x.2.2.2.2)
   else
    Aq.l1 (x.1,x.2.1,x.2.2.1,(w64 (x.2.2.2.1+1)),x.2.2.2.2)
  else
   Aq.l1 (x.1,x.2.1,x.2.2.1,(w64 (x.2.2.2.1+1)),x.2.2.2.2)
 else
  some x.2.1
 partial_fixpoint
theorem Aq.l1.ws:PC Aq.l1 (fun x o=>∀ lo c (Q:EP) (hb:∀ s:AC,o=s→Q (.exit 2) ⟨[(1,.v (.i64 x.1)),(2,.v (.w s)),(3,.lref 3 0),(7,.v (.w x.2.2.1))],[(3,[.v (.slice .foreign (x.2.2.2.2.Joins.map AO.av)),.v (.slice .foreign (x.2.2.2.2.Ops.map AK.av))])]⟩),AJ Tryz.prog 47 lo c 1 (VQ Q) ⟨[(1,.v (.i64 x.1)),(2,.v (.w x.2.1)),(3,.lref 3 0),(7,.v (.w x.2.2.1)),(8,.v (.i64 x.2.2.2.1))],[(3,[.v (.slice .foreign (x.2.2.2.2.Joins.map AO.av)),.v (.slice .foreign (x.2.2.2.2.Ops.map AK.av))])]⟩):=by
 refine Aq.l1.partial_correctness _ ?_
 ·intro RY Qi x o h
  have AFM:AH RY _:=⟨Qi⟩
  intro lo c Q hb
  refine AJ.step mix ABy (by kernel_rfl) ?_
  simp -implicitDefEqProofs only[go_sem,Tryz.f47]
  exact AN
instance Aq.l1.w:type_of% (AH.mk Aq.l1.ws):=⟨Aq.l1.ws⟩
def Aq.l0 (x:Int × AC × AG):Option (AC) :=
 Aq.l1 (x.1,x.2.1,x.2.1,0,x.2.2)>>=fun (o10:AC) =>
 if(o10 == x.2.1)=true then
  some o10
 else
  Aq.l0 (x.1,o10,x.2.2)
 partial_fixpoint
theorem Aq.l0.ws:PC Aq.l0 (fun x o=>∀ lo c (Q:EP) (hr:∀ (L:AM),DO Tryz.prog [.tmp 6] (.w o) (fun _=>True) .ret L→Q .ret L),AJ Tryz.prog 47 lo c 0 (VQ Q) ⟨[(1,.v (.i64 x.1)),(2,.v (.w x.2.1)),(3,.lref 3 0)],[(3,[.v (.slice .foreign (x.2.2.Joins.map AO.av)),.v (.slice .foreign (x.2.2.Ops.map AK.av))])]⟩):=by
 refine Aq.l0.partial_correctness _ ?_
 ·intro SK Py x o h
  have AFK:AH SK _:=⟨Py⟩
  intro lo c Q hr
  refine AJ.step mix ABy (by kernel_rfl) ?_
  simp -implicitDefEqProofs only[go_sem,Tryz.f47]
  exact AN
instance Aq.l0.w:type_of% (AH.mk Aq.l0.ws):=⟨Aq.l0.ws⟩
def Aq (x:AG × Int × AC):Option (AC) :=
 Aq.l0 (x.2.1,x.2.2,x.1)>>=fun (o13:AC) =>
 some o13
instance Aq.w:AH Aq (fun x r=>Fn Tryz.prog 47 [.agg (AG.C x.1),.i64 x.2.1,.w x.2.2] (.w r)):=⟨by
 intro x r h
 rw[Aq] at h
 try dsimp only
 refine Fn.of_lc mix ABy ALP (by rfl) (flC (AG.flatC _) (flC (.atom _) (flC (.atom _) (flN)))) (.atom _) ?_
 simp -implicitDefEqProofs only[go_sem,Tryz.f47]
 exact AN⟩
end
section
@[go_sem] theorem APG:lrp Tryz.prog 82 1=(9,[]):=by kernel_rfl
theorem AKL:okF Tryz.f82=true:=by kernel_rfl
end
section
@[go_sem] theorem APb:lrp Tryz.prog 83 7=(50,[]):=by kernel_rfl
theorem AKE:okF Tryz.f83=true:=by kernel_rfl
def Ah.l1 (x:Int × Int × AG):Option (Lp (Unit) (Int × Int)) :=
 if(decide (x.2.1<(x.2.2.Ops.length:Int)))=true then
  if(x.1 != x.2.1)=true then
   (AX x.2.2.Ops x.1)>>=fun (e4:AK) =>
   (AX x.2.2.Ops x.2.1)>>=fun (e6:AK) =>
   if(e4.Home == e6.Home)=true then
    if(e6.Kind == 2)=true then
     GA e4>>=fun r10 =>
     if r10=true then
      CH (e4.Left,e6.Own)>>=fun r13 =>
      if r13=true then
       some (.ret (x.1,x.2.1))
      else
       Ah.l1 (x.1,(w64 (x.2.1+1)),x.2.2)
     else
      Ah.l1 (x.1,(w64 (x.2.1+1)),x.2.2)
    else
     Ah.l1 (x.1,(w64 (x.2.1+1)),x.2.2)
   else
    Ah.l1 (x.1,(w64 (x.2.1+1)),x.2.2)
  else
   Ah.l1 (x.1,(w64 (x.2.1+1)),x.2.2)
 else
  some (.brk ())
 partial_fixpoint
theorem Ah.l1.ws:PC Ah.l1 (fun x o=>∀ lo c (Q:EP) (hb:∀ s:Unit,o=Lp.brk s→Q (.exit 2) ⟨[(1,.lref 1 0),(4,.v (.i64 x.1))],[(1,[.v (.slice .foreign (x.2.2.Joins.map AO.av)),.v (.slice .foreign (x.2.2.Ops.map AK.av))])]⟩) (hr:∀ (r:Int × Int) (L:AM),o=.ret r→DO Tryz.prog [.tmp 2,.tmp 3] (.tuple [.i64 r.1,.i64 r.2]) (fun _=>True) .ret L→Q .ret L),AJ Tryz.prog 83 lo c 1 (VQ Q) ⟨[(1,.lref 1 0),(4,.v (.i64 x.1)),(5,.v (.i64 x.2.1))],[(1,[.v (.slice .foreign (x.2.2.Joins.map AO.av)),.v (.slice .foreign (x.2.2.Ops.map AK.av))])]⟩):=by
 refine Ah.l1.partial_correctness _ ?_
 ·intro QJ PV x o h
  have AEt:AH QJ _:=⟨PV⟩
  intro lo c Q hb hr
  refine AJ.step mix ABj (by kernel_rfl) ?_
  simp -implicitDefEqProofs only[go_sem,Tryz.f83]
  exact AN
instance Ah.l1.w:type_of% (AH.mk Ah.l1.ws):=⟨Ah.l1.ws⟩
def Ah.l0 (x:Int × AG):Option (Lp (Unit) (Int × Int)) :=
 if(decide (x.1<(x.2.Ops.length:Int)))=true then
  Ah.l1 (x.1,0,x.2)>>=fun (o16:Lp (Unit) (Int × Int))=>match o16 with
  | .brk s19 =>
   Ah.l0 ((w64 (x.1+1)),x.2)
  | .ret r18 =>
   some (.ret r18)
 else
  some (.brk ())
 partial_fixpoint
theorem Ah.l0.ws:PC Ah.l0 (fun x o=>∀ lo c (Q:EP) (hb:∀ s:Unit,o=Lp.brk s→Q (.exit 0) ⟨[],[]⟩) (hr:∀ (r:Int × Int) (L:AM),o=.ret r→DO Tryz.prog [.tmp 2,.tmp 3] (.tuple [.i64 r.1,.i64 r.2]) (fun _=>True) .ret L→Q .ret L),AJ Tryz.prog 83 lo c 0 (VQ Q) ⟨[(1,.lref 1 0),(4,.v (.i64 x.1))],[(1,[.v (.slice .foreign (x.2.Joins.map AO.av)),.v (.slice .foreign (x.2.Ops.map AK.av))])]⟩):=by
 refine Ah.l0.partial_correctness _ ?_
 ·intro QO PW x o h
  have AEc:AH QO _:=⟨PW⟩
  intro lo c Q hb hr
  refine AJ.step mix ABj (by kernel_rfl) ?_
  simp -implicitDefEqProofs only[go_sem,Tryz.f83]
  exact AN
instance Ah.l0.w:type_of% (AH.mk Ah.l0.ws):=⟨Ah.l0.ws⟩
def Ah (x:AG):Option (Int × Int) :=
 Ah.l0 (0,x)>>=fun (o20:Lp (Unit) (Int × Int))=>match o20 with
 | .brk s23 =>
  some (-1, -1)
 | .ret r22 =>
  some r22
instance Ah.w:AH Ah (fun x r=>Fn Tryz.prog 83 [.agg (AG.C x)] (.tuple [.i64 r.1,.i64 r.2])):=⟨by
 intro x r h
 rw[Ah] at h
 try dsimp only
 refine Fn.of_lc mix ABj AKE (by rfl) (flC (AG.flatC _) (flN)) (.tuple _ (flC (.atom _) (flC (.atom _) (flN)))) ?_
 simp -implicitDefEqProofs only[go_sem,Tryz.f83]
 exact AN⟩
end
section
@[go_sem] theorem AO9:lrp Tryz.prog 45 9=(18,[]):=by kernel_rfl
theorem ALC:okF Tryz.f45=true:=by kernel_rfl
section
attribute [local instance] Qc
def FX (x:AG):Option (AG) :=
 (room 152 ([]:List AO) x.Joins)>>=fun (z1:List AO) =>
 (room 64 ([]:List AK) x.Ops)>>=fun (z3:List AK) =>
 some (⟨z1,z3⟩:AG)
instance FX.w:AH FX (fun x r=>FnR Tryz.prog 82 [] [.a (.agg (AG.C x))] (.ag [.v (.slice .foreign (r.Joins.map AO.av)),.own 98000001 6 (r.Ops.map AK.av)]) []):=⟨by
 intro x r h
 rw[FX] at h
 try dsimp only
 refine FnR.of_lcG mix AMe AKL (by rfl) (by rfl) (by rfl) (by rfl) fun c=>?_
 simp -implicitDefEqProofs only[go_sem,Tryz.f82]
 obtain⟨z1,h2,h⟩:=AE h;replace h2:=Jq h2;obtain⟨h2',rfl⟩:=h2
 refine Gk.mapFull (F:=AO.av) (xs:=([]:List AO)) (ys:=x.Joins) YN Yg Wo Wx rfl AO.len AL AL h2' ?_
 try simp -implicitDefEqProofs only[go_sem]
 obtain⟨z3,h4,h⟩:=AE h;replace h4:=Jq h4;obtain⟨h4',rfl⟩:=h4
 refine Gk.mapFull (F:=AK.av) (xs:=([]:List AK)) (ys:=x.Ops) Zo Wg UM Us rfl AK.len AL AL h4' ?_
 try simp -implicitDefEqProofs only[go_sem]
 injection h with h;subst h
 first | exact⟨_,rfl,[(98000001,some 90000010)],by rfl,AL,AL⟩ | exact⟨_,rfl,[(98000001,some 90000010)],by rfl,by(simp -implicitDefEqProofs only[go_sem] <;> first | done | rfl | trivial),by(simp -implicitDefEqProofs only[go_sem] <;> first | done | rfl | trivial)⟩⟩
end
section
attribute [local instance] Qc
def CE.l0 (x:Int × AG × AG × AG):Option (Lp (AG × AG) (AG)) :=
 if(decide (x.1≤(w64 ((x.2.1.Ops.length:Int) * (x.2.1.Ops.length:Int)))))=true then
  Ah x.2.2.2>>=fun r4 =>
  if(decide (r4.1<0))=true then
   some (.ret x.2.2.2)
  else
   (AX x.2.2.2.Ops r4.1)>>=fun (e7:AK) =>
   (AX (x.2.2.2.Ops.set (r4.1).toNat (⟨e7.Kind,e7.Conj,e7.Left,e7.Right,e7.Own,r4.2⟩:AK)) r4.2)>>=fun (e9:AK) =>
   (AX (x.2.2.2.Ops.set (r4.1).toNat (⟨e7.Kind,e7.Conj,e7.Left,e7.Right,e7.Own,r4.2⟩:AK)) r4.1)>>=fun (e11:AK) =>
   CE.l0 ((w64 (x.1+1)),x.2.1,x.2.2.1,(⟨x.2.2.2.Joins,((x.2.2.2.Ops.set (r4.1).toNat (⟨e7.Kind,e7.Conj,e7.Left,e7.Right,e7.Own,r4.2⟩:AK)).set (r4.2).toNat (⟨e9.Kind,e9.Conj,e9.Left,e9.Right,(e9.Own|||e11.Own),e9.Home⟩:AK))⟩:AG))
 else
  some (.brk (x.2.2.1,x.2.2.2))
 partial_fixpoint
theorem CE.l0.ws:PC CE.l0 (fun x o=>∀ lo c (Q:EP) (hb:∀ s:AG × AG,o=Lp.brk s→Q (.exit 0) ⟨[(2,.lref 2 0),(3,.lref 3 0)],[(2,[.own 20000200 17 (s.1.Joins.map AO.av),.own 70000201 6 (s.1.Ops.map AK.av)]),(3,[.v (.slice .foreign (s.2.Joins.map AO.av)),.own 110000301 6 (s.2.Ops.map AK.av)])]⟩) (hr:∀ (r:AG) (L:AM),o=.ret r→DO Tryz.prog [.cell 2 92] (.agg (AG.C r)) (fun _=>True) .ret L→Q .ret L),AJ Tryz.prog 45 lo c 0 (VQ Q) ⟨[(1,.lref 1 0),(2,.lref 2 0),(3,.lref 3 0),(4,.v (.i64 x.1))],[(1,[.v (.slice .foreign (x.2.1.Joins.map AO.av)),.v (.slice .foreign (x.2.1.Ops.map AK.av))]),(2,[.own 20000200 17 (x.2.2.1.Joins.map AO.av),.own 70000201 6 (x.2.2.1.Ops.map AK.av)]),(3,[.v (.slice .foreign (x.2.2.2.Joins.map AO.av)),.own 110000301 6 (x.2.2.2.Ops.map AK.av)])]⟩):=by
 refine CE.l0.partial_correctness _ ?_
 ·intro AFG QK x o h
  intro lo c Q hb hr
  refine AJ.step mix AG5 (by kernel_rfl) ?_
  simp -implicitDefEqProofs only[go_sem,Tryz.f45]
  revert h;refine itE (fun h3 h=>?_) fun h3 h=>?_
  ·try simp -implicitDefEqProofs only[go_sem, *, -h]
   obtain⟨r4,h5,h⟩:=AE h
   have hw:=Ah.w.w x.2.2.2 _ h5
   try simp -implicitDefEqProofs only[go_sem] at hw
   refine⟨_,hw,by first | exact(flC (AG.flatC _) (flN)) | (simp -implicitDefEqProofs only[go_sem];exact(flC (AG.flatC _) (flN))),(.tuple _ (scC (.atom _) (scC (.atom _) (scN)))),?_⟩
   clear hw
   try simp -implicitDefEqProofs only[go_sem, *, -h]
   revert h;refine itE (fun h6 h=>?_) fun h6 h=>?_
   ·try simp -implicitDefEqProofs only[go_sem, *, -h]
    injection h with h;subst h
    exact .inl (hr _ _ rfl AL)
   ·try simp -implicitDefEqProofs only[go_sem, *, -h]
    obtain⟨e7,h8,h⟩:=AE h;replace h8:=Dw h8;obtain⟨h8',h8⟩:=h8;have h8v:r4.1<(x.2.2.2.Ops.length:Int):=by have:=(List.getElem?_eq_some_iff.1 h8).1;omega
    try simp -implicitDefEqProofs only[go_sem, *, -h]
    refine Qm.map (F:=AK.av) (xs:=x.2.2.2.Ops) (x:=e7) (x':=(⟨e7.Kind,e7.Conj,e7.Left,e7.Right,e7.Own,r4.2⟩:AK)) AL AL (by rfl) (by rfl) (by rfl) h8 (by first | rfl | (first | rfl | simp -implicitDefEqProofs only[go_sem, *] <;> rfl)) ?_
    try simp -implicitDefEqProofs only[go_sem, *, -h]
    obtain⟨e9,h10,h⟩:=AE h;replace h10:=Dw h10;obtain⟨h10',h10⟩:=h10;have h10v:r4.2<((x.2.2.2.Ops.set (r4.1).toNat (⟨e7.Kind,e7.Conj,e7.Left,e7.Right,e7.Own,r4.2⟩:AK)).length:Int):=by have:=(List.getElem?_eq_some_iff.1 h10).1;omega
    try simp -implicitDefEqProofs only[go_sem, *, -h]
    obtain⟨e11,h12,h⟩:=AE h;replace h12:=Dw h12;obtain⟨h12',h12⟩:=h12;have h12v:r4.1<((x.2.2.2.Ops.set (r4.1).toNat (⟨e7.Kind,e7.Conj,e7.Left,e7.Right,e7.Own,r4.2⟩:AK)).length:Int):=by have:=(List.getElem?_eq_some_iff.1 h12).1;omega
    try simp -implicitDefEqProofs only[go_sem, *, -h]
    refine Qm.map (F:=AK.av) (xs:=(x.2.2.2.Ops.set (r4.1).toNat (⟨e7.Kind,e7.Conj,e7.Left,e7.Right,e7.Own,r4.2⟩:AK))) (x:=e9) (x':=(⟨e9.Kind,e9.Conj,e9.Left,e9.Right,(e9.Own|||e11.Own),e9.Home⟩:AK)) AL AL (by rfl) (by rfl) (by rfl) h10 (by first | rfl | (first | rfl | simp -implicitDefEqProofs only[go_sem, *] <;> rfl)) ?_
    try simp -implicitDefEqProofs only[go_sem, *, -h]
    exact AJ.view [(20000200,some 20000200),(70000201,some 70000201),(110000301,some 110000301)] AL (QK _ _ h lo c Q hb hr)
  ·try simp -implicitDefEqProofs only[go_sem, *, -h]
   injection h with h;subst h
   exact .inr ⟨[(20000200,some 20000200),(70000201,some 70000201),(110000301,some 110000301)],_,by(simp -implicitDefEqProofs only[go_sem, *] <;> first | done | rfl | trivial),hb _ rfl⟩
instance CE.l0.w:type_of% (AH.mk CE.l0.ws):=⟨CE.l0.ws⟩
end
section
attribute [local instance] Qc
def CE (x:AG):Option (AG) :=
 FX x>>=fun r1 =>
 CE.l0 (0,x,(⟨[],[]⟩:AG),r1)>>=fun (o13:Lp (AG × AG) (AG))=>match o13 with
 | .brk s16 =>
  some s16.2
 | .ret r15 =>
  some r15
instance CE.w:AH CE (fun x r=>Fn Tryz.prog 45 [.agg (AG.C x)] (.agg (AG.C r))):=⟨by
 intro x r h
 rw[CE] at h
 try dsimp only
 refine Fn.of_lc mix AG5 ALC (by rfl) (flC (AG.flatC _) (flN)) (AG.flatC _) ?_
 simp -implicitDefEqProofs only[go_sem,Tryz.f45]
 obtain⟨r1,h2,h⟩:=AE h
 have hw:=FX.w.w x _ h2
 try simp -implicitDefEqProofs only[go_sem] at hw
 refine .res [] [] [] [] _ _ hw AL (by rfl) (by rfl) (by rfl) (by rfl) AL (by rfl) AL AL ?_
 clear hw
 try simp -implicitDefEqProofs only[go_sem]
 obtain⟨o13,h14,h⟩:=AE h
 refine AJ.viewQ (AJ.view [(20000200,none),(70000201,none),(110000301,some 98000001)] AL (CE.l0.w.w (0,x,(⟨[],[]⟩:AG),r1) _ h14 _ _ _ ?_ ?_))
 ·intro s16 hs';subst hs'
  try simp -implicitDefEqProofs only[go_sem]
  injection h with h;subst h
  first | rfl | simp -implicitDefEqProofs only[go_sem] <;> rfl
 ·intro r15 L' hs' hL';subst hs'
  injection h with h;subst h
  first | exact hL' | (simp -implicitDefEqProofs only[go_sem];exact hL') | (simp -implicitDefEqProofs only[go_sem];simp -implicitDefEqProofs only[go_sem] at hL';exact hL')⟩
end
end
section
theorem ALe:okF Tryz.f12=true:=by kernel_rfl
def BD.l0 (x:List AD × Int × AG):Option (List AD) :=
 if(decide (x.2.1<(x.2.2.Joins.length:Int)))=true then
  (AX x.2.2.Joins x.2.1)>>=fun (e6:AO) =>
  Aq (x.2.2,e6.Home,e6.Left)>>=fun r8 =>
  Aq (x.2.2,e6.Home,e6.Right)>>=fun r10 =>
  (room 56 x.1 ([(⟨1,[e6.Pred],(e6.Left|||e6.Right),r8,r10⟩:AD)]))>>=fun (z12:List AD) =>
  BD.l0 (z12,(w64 (x.2.1+1)),x.2.2)
 else
  some x.1
 partial_fixpoint
theorem BD.l0.ws:PC BD.l0 (fun x o=>∀ lo c (Q:EP) (hb:∀ s:List AD,o=s→Q (.exit 0) ⟨[(3,.lref 3 0),(4,.own 100400 5 (s.map AD.av))],[(3,[.v (.slice .foreign (x.2.2.Joins.map AO.av)),.v (.slice .foreign (x.2.2.Ops.map AK.av))])]⟩),AJ Tryz.prog 12 lo c 0 (VQ Q) ⟨[(3,.lref 3 0),(4,.own 100400 5 (x.1.map AD.av)),(5,.v (.i64 x.2.1))],[(3,[.v (.slice .foreign (x.2.2.Joins.map AO.av)),.v (.slice .foreign (x.2.2.Ops.map AK.av))])]⟩):=by
 refine BD.l0.partial_correctness _ ?_
 ·intro UD Sm x o h
  have AHO:AH UD _:=⟨Sm⟩
  intro lo c Q hb
  refine AJ.step mix ACT (by kernel_rfl) ?_
  simp -implicitDefEqProofs only[go_sem,Tryz.f12]
  exact AN
instance BD.l0.w:type_of% (AH.mk BD.l0.ws):=⟨BD.l0.ws⟩
def BD.l1 (x:List AD × Int × AG):Option (List AD) :=
 if(decide (x.2.1<(x.2.2.Ops.length:Int)))=true then
  (AX x.2.2.Ops x.2.1)>>=fun (e17:AK) =>
  Aq (x.2.2,e17.Home,e17.Left)>>=fun r19 =>
  Ce (x.2.2,x.2.1)>>=fun r21 =>
  (room 56 x.1 ([(⟨e17.Kind,e17.Conj,(e17.Left|||e17.Right),r19,r21⟩:AD)]))>>=fun (z23:List AD) =>
  BD.l1 (z23,(w64 (x.2.1+1)),x.2.2)
 else
  some x.1
 partial_fixpoint
theorem BD.l1.ws:PC BD.l1 (fun x o=>∀ lo c (Q:EP) (hb:∀ s:List AD,o=s→Q (.exit 2) ⟨[(4,.own 100400 5 (s.map AD.av))],[]⟩),AJ Tryz.prog 12 lo c 1 (VQ Q) ⟨[(3,.lref 3 0),(4,.own 100400 5 (x.1.map AD.av)),(8,.v (.i64 x.2.1))],[(3,[.v (.slice .foreign (x.2.2.Joins.map AO.av)),.v (.slice .foreign (x.2.2.Ops.map AK.av))])]⟩):=by
 refine BD.l1.partial_correctness _ ?_
 ·intro Tj Si x o h
  have AHQ:AH Tj _:=⟨Si⟩
  intro lo c Q hb
  refine AJ.step mix ACT (by kernel_rfl) ?_
  simp -implicitDefEqProofs only[go_sem,Tryz.f12]
  exact AN
instance BD.l1.w:type_of% (AH.mk BD.l1.ws):=⟨BD.l1.ws⟩
def BD (x:AA):Option (List AD) :=
 AP x>>=fun r1 =>
 CE r1>>=fun r3 =>
 BD.l0 (([]:List AD),0,r3)>>=fun (o14:List AD) =>
 BD.l1 (o14,0,r3)>>=fun (o25:List AD) =>
 some o25
instance BD.w:AH BD (fun x r=>Fn Tryz.prog 12 [.agg (AA.C x)] (.slice .foreign (r.map AD.av))):=⟨by
 intro x r h
 rw[BD] at h
 try dsimp only
 refine Fn.of_lc mix ACT ALe (by rfl) (flC (AA.flatC _) (flN)) (AQ _ AD.flat _) ?_
 simp -implicitDefEqProofs only[go_sem,Tryz.f12]
 exact AN⟩
end
section
structure WF (g:AG) (d:Nat→Nat) (bd:Nat):Prop where
 jl:g.Joins.length≤100000
 ol:g.Ops.length≤1000
 bound:∀ i,i<g.Ops.length→d i≤bd
 home:∀ i (h:i<g.Ops.length),(g.Ops[i].Home = -1∧d i=0)∨∃ p:Nat,g.Ops[i].Home=(p:Int)∧p<g.Ops.length∧d i=d p+1
 conj:∀ o∈g.Ops,o.Conj.length≤1000000∧∀ p∈o.Conj,p.size≤1000000
 jp:∀ j∈g.Joins,j.Pred.size≤1000000
theorem Ef {α:Type} (pre:List α) (x:α) (post:List α):AX (pre++x :: post) (pre.length:Int)=some x:=by
 rw[Ag (by rw[List.length_append,List.length_cons];omega)]
 congr 1
 rw[List.getElem_append_right (by omega)]
 simp
theorem CF {α:Type} (pre:List α) (x:α):(pre++[x]).length=pre.length+1:=by rw[List.length_append];rfl
theorem AKM (n:Int):∀ (post pre:List Int),pre.length+post.length≤100000000→Cn.l0 (pre++post,n,(pre.length:Int))=some (if n∈post then .ret true else .brk ()):=by
 intro post
 induction post with
 | nil=>intro pre _;rw[List.append_nil,Cn.l0,if_neg (dge (by dsimp only;omega))];rfl
 | cons x post ih =>
  intro pre hl
  simp only[List.length_cons] at hl
  have hlen:(pre++x :: post).length=pre.length+(post.length+1):=by rw[List.length_append];rfl
  have h0:=ih (pre++[x]) (by rw[CF];omega)
  rw[CF,List.append_assoc] at h0
  rw[Cn.l0,if_pos (dlt (by dsimp only;omega))]
  dsimp only
  rw[Ef]
  simp -implicitDefEqProofs only[Option.bind_eq_bind,Option.bind_some]
  by_cases hx:x=n
  ·subst hx;rw[if_pos (by simp),if_pos List.mem_cons_self]
  ·rw[if_neg (by simpa using hx),AU (by omega)]
   refine h0.trans ?_
   congr 1
   by_cases hm:n∈post
   ·rw[if_pos hm,if_pos (List.mem_cons_of_mem _ hm)]
   ·rw[if_neg hm,if_neg (fun h=>by rcases List.mem_cons.1 h with h | h;exact hx h.symm;exact hm h)]
theorem ADB (l:List Int) (n:Int) (hl:l.length≤100000000):Cn (l,n)=some (decide (n∈l)):=by
 have h0:=AKM n l [] (by simpa using hl)
 simp only[List.nil_append,List.length_nil] at h0
 rw[show ((0:Nat):Int)=0 from rfl] at h0
 unfold Cn
 dsimp only
 rw[h0]
 by_cases h:n∈l
 ·rw[if_pos h,decide_eq_true h];rfl
 ·rw[if_neg h,decide_eq_false h];rfl
def KN (g:AG) (l:List Int):Prop:=∀ e∈l,∃ n:Nat,e=(n:Int)∧n<g.Ops.length
section
variable {g:AG} {d:Nat→Nat} {bd:Nat}
theorem VD (w:WF g d bd) (o:AK) (ho:o∈g.Ops):∃ b,GA o=some b:=by
 unfold GA
 exact CI (DH (QQ o.Conj (w.conj o ho).1 (w.conj o ho).2 _) fun _=>⟨_,rfl⟩) ⟨_,rfl⟩
theorem AAR (w:WF g d bd) (home:Int):∀ (n:Nat) (i:Int),(∀ k:Nat,i=(k:Int)→k<g.Ops.length→d k<n)→∃ b,Dc (g,i,home)=some b:=by
 intro n
 induction n with
 | zero =>
  intro i hi
  rw[Dc]
  dsimp only
  by_cases h1:i<0
  ·rw[if_pos (decide_eq_true h1)];exact⟨_,rfl⟩
  ·rw[if_neg (by simpa using h1)]
   by_cases h2:i ≥ (g.Ops.length:Int)
   ·rw[if_pos (decide_eq_true h2)];exact⟨_,rfl⟩
   ·exact absurd (hi i.toNat (by omega) (by omega)) (by omega)
 | succ n ih =>
  intro i hi
  rw[Dc]
  dsimp only
  by_cases h1:i<0
  ·rw[if_pos (decide_eq_true h1)];exact⟨_,rfl⟩
  ·rw[if_neg (by simpa using h1)]
   by_cases h2:i ≥ (g.Ops.length:Int)
   ·rw[if_pos (decide_eq_true h2)];exact⟨_,rfl⟩
   ·rw[if_neg (by simpa using h2)]
    obtain⟨k,rfl⟩:∃ k:Nat,i=(k:Int):=⟨i.toNat,by omega⟩
    have hk:k<g.Ops.length:=by omega
    rw[Ag hk]
    simp -implicitDefEqProofs only[Option.bind_eq_bind,Option.bind_some]
    refine CI ⟨_,rfl⟩ (DH (ih _ fun p hp hpl=>?_) fun _=>⟨_,rfl⟩)
    have hdk:=hi k rfl hk
    rcases w.home k hk with⟨h3,_⟩|⟨q,h3,h4,h5⟩
    ·rw[h3] at hp;omega
    ·rw[h3] at hp
     have:q=p:=by omega
     subst this
     omega
theorem AE3 (w:WF g d bd) (i k:Nat) (hi:i<g.Ops.length) (hk:k<g.Ops.length) (hand sm:List Int) (hv:KN g hand) (h1:hand.length≤10000000) (h2:sm.length≤10000000):∃ b,Aw (g,(i:Int),(k:Int),hand,sm)=some b:=by
 have jl:=w.jl
 have k0:∀ (own:AC) n j,g.Joins.length - j=n→j≤g.Joins.length→∃ o,Aw.l0 ((i:Int),(k:Int),hand,sm,own,(j:Int),g)=some o:=by
  intro own n
  induction n with
  | zero=>intro j h3 h4;rw[Aw.l0,if_neg (dge (by dsimp only;omega))];exact⟨_,rfl⟩
  | succ n ih =>
   intro j h3 h4
   rw[Aw.l0,if_pos (dlt (by dsimp only;omega))]
   dsimp only
   rw[Ag (show j<g.Joins.length by omega),AU (by omega)]
   simp -implicitDefEqProofs only[Option.bind_eq_bind,Option.bind_some]
   exact CI (CI ⟨_,rfl⟩ (CI ⟨_,rfl⟩ (ih (j+1) (by omega) (by omega)))) (ih (j+1) (by omega) (by omega))
 have k1:∀ (own:AC) (post pre:List Int),hand=pre++post→∃ o,Aw.l1 ((k:Int),hand,sm,own,(pre.length:Int),g)=some o:=by
  intro own post
  induction post with
  | nil=>intro pre h;rw[List.append_nil] at h;subst h;rw[Aw.l1,if_neg (dge (by dsimp only;omega))];exact⟨_,rfl⟩
  | cons x post ih =>
   intro pre h
   have hlen:hand.length=pre.length+(post.length+1):=by rw[h,List.length_append];rfl
   have h0:=ih (pre++[x]) (by rw[h,List.append_assoc];rfl)
   rw[CF] at h0
   obtain⟨n,rfl,hn⟩:=hv x (by rw[h];simp)
   rw[Aw.l1,if_pos (dlt (by dsimp only;omega))]
   dsimp only
   have gx:AX hand (pre.length:Int)=some (n:Int):=by rw[h];exact Ef _ _ _
   rw[gx,AU (by omega)]
   simp -implicitDefEqProofs only[Option.bind_eq_bind,Option.bind_some]
   rw[ADB _ _ (by omega),Ag hn]
   simp -implicitDefEqProofs only[Option.bind_some]
   exact CI (CI h0 (CI ⟨_,rfl⟩ h0)) h0
 unfold Aw
 dsimp only
 rw[Ag hk,Ag hi]
 simp -implicitDefEqProofs only[Option.bind_eq_bind,Option.bind_some]
 refine CI ⟨_,rfl⟩ (CI ⟨_,rfl⟩ ?_)
 have e0:=k0 g.Ops[k].Own g.Joins.length 0 (by omega) (by omega)
 have e1:=k1 g.Ops[k].Own hand [] rfl
 rw[show ((0:Nat):Int)=0 from rfl] at e0
 rw[show (([]:List Int).length:Int)=0 from rfl] at e1
 obtain⟨a,ha⟩:=e0
 rw[ha]
 simp -implicitDefEqProofs only[Option.bind_some]
 cases a with
 | ret r=>exact⟨_,rfl⟩
 | brk s =>
  dsimp only
  obtain⟨b,hb⟩:=e1
  rw[hb]
  simp -implicitDefEqProofs only[Option.bind_some]
  cases b <;> exact⟨_,rfl⟩
def pick (n:Nat) (p:Nat→Bool):List Int:=((List.range n).filter p).map fun (k:Nat)=>(k:Int)
theorem YW (n:Nat) (p:Nat→Bool):(pick n p).length≤n:=by
 unfold pick
 rw[List.length_map]
 exact Nat.le_trans (List.length_filter_le _ _) (by simp)
theorem AGR (n:Nat) (p:Nat→Bool) (k:Nat):(k:Int)∈pick n p ↔ k<n∧p k=true:=by
 unfold pick
 rw[List.mem_map]
 constructor
 ·rintro⟨j,hj,he⟩
  have:j=k:=by omega
  subst this
  rw[List.mem_filter,List.mem_range] at hj
  exact hj
 ·rintro⟨h1,h2⟩
  exact⟨k,List.mem_filter.2 ⟨List.mem_range.2 h1,h2⟩,rfl⟩
theorem ACE (p:Nat→Bool):KN g (pick g.Ops.length p):=by
 intro e he
 unfold pick at he
 obtain⟨j,hj,rfl⟩:=List.mem_map.1 he
 rw[List.mem_filter,List.mem_range] at hj
 exact⟨j,rfl,hj.1⟩
theorem AA7 (w:WF g d bd) (i:Nat) (hi:i<g.Ops.length) (hand sm:List Int) (hv:KN g hand) (h1:hand.length≤10000000) (h2:sm.length≤10000000) :
  ∃ p:Nat→Bool,AZ.l2 ((i:Int),hand,sm,([]:List Int),0,g)=some (pick g.Ops.length p)∧∀ k,p k=true→(k:Int)∈sm:=by
 have ol:=w.ol
 let p:Nat→Bool:=fun k=>decide ((k:Int)∈sm)&&(Aw (g,(i:Int),(k:Int),hand,sm)).getD false
 have key:∀ n j (acc:List Int),g.Ops.length - j=n→j≤g.Ops.length→acc.length≤j→AZ.l2 ((i:Int),hand,sm,acc,(j:Int),g)=some (acc++((List.range' j n).filter p).map fun (k:Nat)=>(k:Int)):=by
  intro n
  induction n with
  | zero=>intro j acc h3 h4 h5;rw[AZ.l2,if_neg (dge (by dsimp only;omega))];simp
  | succ n ih =>
   intro j acc h3 h4 h5
   have hj:j<g.Ops.length:=by omega
   obtain⟨b,hb⟩:=AE3 w i j hi hj hand sm hv h1 h2
   rw[AZ.l2,if_pos (dlt (by dsimp only;omega))]
   dsimp only
   rw[ADB _ _ (by omega),hb,AU (by omega)]
   simp -implicitDefEqProofs only[Option.bind_eq_bind,Option.bind_some]
   rw[List.range'_succ,List.filter_cons]
   have hpj:p j=(decide ((j:Int)∈sm)&&b):=by show (_&&(Aw _).getD false)=_;rw[hb];rfl
   rw[hpj]
   by_cases hm:(j:Int)∈sm
   ·rw[if_pos (decide_eq_true hm),decide_eq_true hm,Bool.true_and]
    cases b with
    | true =>
     rw[if_pos rfl,if_pos rfl,Bp (by simp only[List.length_cons,List.length_nil];omega)]
     simp -implicitDefEqProofs only[Option.bind_some]
     rw[ih (j+1) _ (by omega) (by omega) (by rw[CF];omega),List.append_assoc];rfl
    | false=>rw[if_neg (by simp),if_neg (by simp)];exact ih (j+1) acc (by omega) (by omega) (by omega)
   ·rw[if_neg (by simpa using hm),decide_eq_false hm,Bool.false_and,if_neg (by simp)];exact ih (j+1) acc (by omega) (by omega) (by omega)
 refine⟨p,?_,fun k hk=>?_⟩
 ·have h0:=key g.Ops.length 0 [] (by omega) (by omega) (by simp)
  rw[show ((0:Nat):Int)=0 from rfl,List.nil_append] at h0
  rw[h0]
  unfold pick
  rw[List.range_eq_range']
 ·have:(decide ((k:Int)∈sm)&&(Aw (g,(i:Int),(k:Int),hand,sm)).getD false)=true:=hk
  rw[Bool.and_eq_true] at this
  exact of_decide_eq_true this.1
theorem AH2 (w:WF g d bd) (i:Nat) (hi:i<g.Ops.length) (hand:List Int) (hv:KN g hand) (h1:hand.length≤10000000):∀ (n:Nat) (p:Nat→Bool),(pick g.Ops.length p).length=n→∃ q,AZ.l1 ((i:Int),hand,pick g.Ops.length p,g)=some (pick g.Ops.length q):=by
 have ol:=w.ol
 intro n
 induction n using Nat.strongRecOn with
 | _ n ih =>
  intro p hp
  have hpl:=YW g.Ops.length p
  obtain⟨q,hq,hsub⟩:=AA7 w i hi hand (pick g.Ops.length p) hv h1 (by omega)
  rw[AZ.l1]
  dsimp only
  rw[hq]
  simp -implicitDefEqProofs only[Option.bind_eq_bind,Option.bind_some]
  by_cases he:(pick g.Ops.length q).length=(pick g.Ops.length p).length
  ·rw[if_pos (by simp[he])];exact⟨q,rfl⟩
  ·rw[if_neg (by simp;omega)]
   have hle:(pick g.Ops.length q).length≤(pick g.Ops.length p).length:=by
    unfold pick
    rw[List.length_map,List.length_map,← List.countP_eq_length_filter,← List.countP_eq_length_filter]
    exact List.countP_mono_left fun k hk hqk=>((AGR _ _ _).1 (hsub k hqk)).2
   exact ih _ (by omega) q rfl
theorem ACs (w:WF g d bd):∀ (n:Nat) (i:Int),(∀ k:Nat,i=(k:Int)→k<g.Ops.length→bd - d k≤n)→∃ out,AZ (g,i)=some out∧KN g out∧out.length≤g.Ops.length:=by
 have ol:=w.ol
 have nilV:KN g []:=fun e he=>by cases he
 have head:∀ (i:Int) (rec:∀ k j:Nat,i=(k:Int)→k<g.Ops.length→∀ hj:j<g.Ops.length,g.Ops[j].Home=(k:Int)→∃ out,AZ (g,(j:Int))=some out∧KN g out∧out.length≤g.Ops.length),∃ out,AZ (g,i)=some out∧KN g out∧out.length≤g.Ops.length:=by
  intro i rec
  rw[AZ]
  dsimp only
  by_cases h1:i<0
  ·rw[if_pos (decide_eq_true h1)];exact⟨[],rfl,nilV,by simp⟩
  rw[if_neg (by simpa using h1)]
  by_cases h2:i ≥ (g.Ops.length:Int)
  ·rw[if_pos (decide_eq_true h2)];exact⟨[],rfl,nilV,by simp⟩
  rw[if_neg (by simpa using h2)]
  obtain⟨k,rfl⟩:∃ k:Nat,i=(k:Int):=⟨i.toNat,by omega⟩
  have hk:k<g.Ops.length:=by omega
  rw[Ag hk]
  simp -implicitDefEqProofs only[Option.bind_eq_bind,Option.bind_some]
  by_cases h3:g.Ops[k].Kind=2
  ·rw[if_neg (by simp[h3])]
   have key:∀ n j (hand sm:List Int),g.Ops.length - j=n→j≤g.Ops.length→KN g hand→hand.length≤j * 1001→sm.length≤j * 1001→∃ h s,AZ.l0 ((k:Int),hand,sm,(j:Int),g)=some (h,s)∧KN g h∧h.length≤1001000∧s.length≤1001000:=by
    intro n
    induction n with
    | zero=>intro j hand sm h4 h5 h6 h7 h8;rw[AZ.l0,if_neg (dge (by dsimp only;omega))];exact⟨_,_,rfl,h6,by dsimp only;omega,by dsimp only;omega⟩
    | succ n ih =>
     intro j hand sm h4 h5 h6 h7 h8
     have hj:j<g.Ops.length:=by omega
     rw[AZ.l0,if_pos (dlt (by dsimp only;omega))]
     dsimp only
     rw[Ag hj,AU (by omega)]
     simp -implicitDefEqProofs only[Option.bind_eq_bind,Option.bind_some]
     by_cases hh:g.Ops[j].Home=(k:Int)
     ·rw[if_neg (by simp[hh])]
      obtain⟨more,hm,hmv,hml⟩:=rec k j rfl hk hj hh
      rw[hm]
      simp -implicitDefEqProofs only[Option.bind_some]
      rw[Bp (by simp only[List.length_cons,List.length_nil];omega)]
      simp -implicitDefEqProofs only[Option.bind_some]
      rw[Bp (by rw[CF];omega)]
      simp -implicitDefEqProofs only[Option.bind_some]
      rw[Bp (by omega)]
      simp -implicitDefEqProofs only[Option.bind_some]
      obtain⟨b,hb⟩:=VD w _ (List.getElem_mem hj)
      rw[hb]
      simp -implicitDefEqProofs only[Option.bind_some]
      have hv2:KN g (hand++[(j:Int)]++more):=by
       intro e he
       rcases List.mem_append.1 he with he | he
       ·rcases List.mem_append.1 he with he | he
        ·exact h6 e he
        ·rw[List.mem_singleton] at he;exact⟨j,he,hj⟩
       ·exact hmv e he
      cases b with
      | true =>
       rw[if_pos rfl,Bp (by simp only[List.length_append,List.length_cons,List.length_nil];omega)]
       simp -implicitDefEqProofs only[Option.bind_some]
       exact ih (j+1) _ _ (by omega) (by omega) hv2 (by simp only[List.length_append,List.length_cons,List.length_nil];omega) (by simp only[List.length_append,List.length_cons,List.length_nil];omega)
      | false =>
       rw[if_neg (by simp)]
       exact ih (j+1) _ _ (by omega) (by omega) hv2 (by simp only[List.length_append,List.length_cons,List.length_nil];omega) (by simp only[List.length_append];omega)
     ·rw[if_pos (by simpa using hh)];exact ih (j+1) _ _ (by omega) (by omega) h6 (Nat.le_trans h7 (Nat.mul_le_mul_right _ (Nat.le_succ j))) (Nat.le_trans h8 (Nat.mul_le_mul_right _ (Nat.le_succ j)))
   obtain⟨h,s,e0,hv,hhl,hsl⟩:=key g.Ops.length 0 [] [] (by omega) (by omega) nilV (show ([]:List Int).length≤0 * 1001 from Nat.zero_le (0 * 1001)) (show ([]:List Int).length≤0 * 1001 from Nat.zero_le (0 * 1001))
   rw[show ((0:Nat):Int)=0 from rfl] at e0
   rw[e0]
   simp -implicitDefEqProofs only[Option.bind_some]
   obtain⟨p,hp,_⟩:=AA7 w k hk h s hv (by omega) (by omega)
   have hfin:∃ q,AZ.l1 ((k:Int),h,s,g)=some (pick g.Ops.length q):=by
    rw[AZ.l1]
    dsimp only
    rw[hp]
    simp -implicitDefEqProofs only[Option.bind_eq_bind,Option.bind_some]
    by_cases he:(pick g.Ops.length p).length=s.length
    ·rw[if_pos (by simp[he])];exact⟨p,rfl⟩
    ·rw[if_neg (by simp;omega)];exact AH2 w k hk h hv (by omega) _ p rfl
   obtain⟨q,hq⟩:=hfin
   rw[hq]
   exact⟨_,rfl,ACE q,YW _ _⟩
  ·rw[if_pos (by simpa using h3)];exact⟨[],rfl,nilV,by simp⟩
 intro n
 induction n with
 | zero =>
  intro i hi
  refine head i fun k j hk hkl hj hh=>?_
  have h1:=hi k hk hkl
  have h2:=w.bound j hj
  rcases w.home j hj with⟨h3,_⟩|⟨p,h3,h4,h5⟩
  ·rw[h3] at hh;omega
  ·have:p=k:=by omega
   subst this
   omega
 | succ n ih =>
  intro i hi
  refine head i fun k j hk hkl hj hh=>ih _ fun z hz hzl=>?_
  have h1:=hi k hk hkl
  have hzj:z=j:=by omega
  subst hzj
  have h2:=w.bound z hj
  rcases w.home z hj with⟨h3,_⟩|⟨p,h3,h4,h5⟩
  ·rw[h3] at hh;omega
  ·have:p=k:=by omega
   subst this
   omega
end
end
section
open Classical
theorem XC {g:AG} {d:Nat→Nat} {bd:Nat} (w:WF g d bd) (i:Int):∃ s,Ce (g,i)=some s:=by
 have ol:=w.ol
 unfold Ce
 dsimp only
 by_cases h1:i<0
 ·rw[if_pos (decide_eq_true h1)];exact⟨_,rfl⟩
 rw[if_neg (by simpa using h1)]
 by_cases h2:i ≥ (g.Ops.length:Int)
 ·rw[if_pos (decide_eq_true h2)];exact⟨_,rfl⟩
 rw[if_neg (by simpa using h2)]
 obtain⟨k,rfl⟩:∃ k:Nat,i=(k:Int):=⟨i.toNat,by omega⟩
 have hk:k<g.Ops.length:=by omega
 obtain⟨out,ho,hv,hl⟩:=ACs w bd (k:Int) (fun _ _ _=>by omega)
 rw[Ag hk,ho]
 simp -implicitDefEqProofs only[Option.bind_eq_bind,Option.bind_some]
 have key:∀ (post pre:List Int) (s:AC),out=pre++post→∃ o,Ce.l0 (s,out,(pre.length:Int),g)=some o:=by
  intro post
  induction post with
  | nil=>intro pre s h;rw[List.append_nil] at h;subst h;rw[Ce.l0,if_neg (dge (by dsimp only;omega))];exact⟨_,rfl⟩
  | cons x post ih =>
   intro pre s h
   have hlen:out.length=pre.length+(post.length+1):=by rw[h,List.length_append];rfl
   obtain⟨n,rfl,hn⟩:=hv x (by rw[h];simp)
   have gx:AX out (pre.length:Int)=some (n:Int):=by rw[h];exact Ef _ _ _
   rw[Ce.l0,if_pos (dlt (by dsimp only;omega))]
   dsimp only
   rw[gx,AU (by omega)]
   simp -implicitDefEqProofs only[Option.bind_eq_bind,Option.bind_some]
   rw[Ag hn]
   simp -implicitDefEqProofs only[Option.bind_some]
   have h0:=ih (pre++[(n:Int)]) (s&&&~~~g.Ops[n].Own) (by rw[h,List.append_assoc];rfl)
   rw[CF] at h0
   exact h0
 have h0:=key out [] g.Ops[k].Own rfl
 rw[show (([]:List Int).length:Int)=0 from rfl] at h0
 obtain⟨o,h0⟩:=h0
 rw[h0];exact⟨_,rfl⟩
theorem AJE {a b:AC} (h:∀ n,AY a n=AY b n):a=b:=by
 apply BitVec.eq_of_getLsbD_eq
 intro i hi
 rw[← DK a i hi,← DK b i hi,h]
theorem Pg {g:AG} {d:Nat→Nat} {bd:Nat} (w:WF g d bd) (home:Int) (s:AC):∃ r,Aq (g,home,s)=some r:=by
 have ol:=w.ol
 have l1:∀ n j (s was:AC),g.Ops.length - j=n→j≤g.Ops.length→∃ o,Aq.l1 (home,s,was,(j:Int),g)=some o∧∀ z,AY s z=true→AY o z=true:=by
  intro n
  induction n with
  | zero=>intro j s was h1 h2;rw[Aq.l1,if_neg (dge (by dsimp only;omega))];exact⟨_,rfl,fun _ h=>h⟩
  | succ n ih =>
   intro j s was h1 h2
   have hj:j<g.Ops.length:=by omega
   obtain⟨b,hb⟩:=AAR w home (bd+1) (j:Int) (fun k hk hkl=>by have:=w.bound k hkl;omega)
   rw[Aq.l1,if_pos (dlt (by dsimp only;omega))]
   dsimp only
   rw[hb,AU (by omega)]
   simp -implicitDefEqProofs only[Option.bind_eq_bind,Option.bind_some]
   by_cases hbb:b=true
   ·rw[if_pos hbb,Ag hj]
    simp -implicitDefEqProofs only[Option.bind_some]
    by_cases hc:((g.Ops[j].Own&&&s) != 0#64)=true
    ·rw[if_pos hc]
     obtain⟨c,hcore⟩:=XC w (j:Int)
     rw[hcore]
     simp -implicitDefEqProofs only[Option.bind_some]
     obtain⟨o,h3,h4⟩:=ih (j+1) ((s|||c)|||g.Ops[j].Left) was (by omega) (by omega)
     exact⟨o,h3,fun z hz=>h4 z (by rw[WP,WP,hz];rfl)⟩
    ·rw[if_neg hc];exact ih (j+1) s was (by omega) (by omega)
   ·rw[if_neg hbb];exact ih (j+1) s was (by omega) (by omega)
 have cle:∀ s,cnt s≤64:=fun s=>by
  unfold cnt
  exact Nat.le_trans List.countP_le_length (by simp)
 have l0:∀ n (s:AC),64 - cnt s=n→∃ r,Aq.l0 (home,s,g)=some r:=by
  intro n
  induction n using Nat.strongRecOn with
  | _ n ih =>
   intro s hn
   obtain⟨o,h1,h2⟩:=l1 g.Ops.length 0 s s (by omega) (by omega)
   rw[show ((0:Nat):Int)=0 from rfl] at h1
   rw[Aq.l0]
   dsimp only
   rw[h1]
   simp -implicitDefEqProofs only[Option.bind_eq_bind,Option.bind_some]
   by_cases he:o=s
   ·rw[if_pos (by simp[he])];exact⟨_,rfl⟩
   ·rw[if_neg (by simpa using he)]
    have hlt:cnt s<cnt o:=ADT h2 (Classical.byContradiction fun hno=>he (AJE fun z=>by
     cases h3:AY o z with
     | true =>
      cases h4:AY s z with
      | true=>rfl
      | false=>exact absurd ⟨z,h3,by rw[h4];simp⟩ hno
     | false =>
      cases h4:AY s z with
      | true=>have:=h2 z h4;rw[h3] at this;cases this
      | false=>rfl))
    have:=cle o
    exact ih (64 - cnt o) (by omega) o rfl
 obtain⟨r,hr⟩:=l0 _ s rfl
 unfold Aq
 dsimp only
 rw[hr];exact⟨_,rfl⟩
def ZJ (g:AG) (r:Int × Int):Prop:=∃ i k:Nat,r=((i:Int),(k:Int))∧i≠k∧∃ (hi:i<g.Ops.length) (hk:k<g.Ops.length),g.Ops[i].Home=g.Ops[k].Home
theorem ABv {g:AG} {d:Nat→Nat} {bd:Nat} (w:WF g d bd):∃ r,Ah g=some r∧(r.1<0∨ZJ g r):=by
 have ol:=w.ol
 have l1:∀ (i:Nat) (hi:i<g.Ops.length) n k,g.Ops.length - k=n→k≤g.Ops.length→Ah.l1 ((i:Int),(k:Int),g)=some (.brk ())∨∃ r,Ah.l1 ((i:Int),(k:Int),g)=some (.ret r)∧ZJ g r:=by
  intro i hi n
  induction n with
  | zero=>intro k h1 h2;left;rw[Ah.l1,if_neg (dge (by dsimp only;omega))]
  | succ n ih =>
   intro k h1 h2
   have hk:k<g.Ops.length:=by omega
   have h0:=ih (k+1) (by omega) (by omega)
   obtain⟨b,hb⟩:=VD w _ (List.getElem_mem hi)
   rw[Ah.l1,if_pos (dlt (by dsimp only;omega))]
   dsimp only
   rw[AU (by omega)]
   by_cases hne:(i:Int)=(k:Int)
   ·rw[if_neg (by simp[hne])];exact h0
   ·rw[if_pos (by simpa using hne),Ag hi,Ag hk]
    simp -implicitDefEqProofs only[Option.bind_eq_bind,Option.bind_some]
    by_cases hh:g.Ops[i].Home=g.Ops[k].Home
    ·rw[if_pos (by simp[hh])]
     by_cases hkd:g.Ops[k].Kind=2
     ·rw[if_pos (by simp[hkd]),hb]
      simp -implicitDefEqProofs only[Option.bind_some]
      by_cases hbb:b=true
      ·rw[if_pos hbb,JI]
       simp -implicitDefEqProofs only[Option.bind_some]
       by_cases hin:inS g.Ops[i].Left g.Ops[k].Own=true
       ·rw[if_pos hin]
        exact .inr ⟨_,rfl,i,k,rfl,by omega,hi,hk,hh⟩
       ·rw[if_neg hin];exact h0
      ·rw[if_neg hbb];exact h0
     ·rw[if_neg (by simpa using hkd)];exact h0
    ·rw[if_neg (by simpa using hh)];exact h0
 have l0:∀ n i,g.Ops.length - i=n→i≤g.Ops.length→Ah.l0 ((i:Int),g)=some (.brk ())∨∃ r,Ah.l0 ((i:Int),g)=some (.ret r)∧ZJ g r:=by
  intro n
  induction n with
  | zero=>intro i h1 h2;left;rw[Ah.l0,if_neg (dge (by dsimp only;omega))]
  | succ n ih =>
   intro i h1 h2
   have hi:i<g.Ops.length:=by omega
   rw[Ah.l0,if_pos (dlt (by dsimp only;omega))]
   dsimp only
   have h0:=l1 i hi g.Ops.length 0 (by omega) (by omega)
   rw[show ((0:Nat):Int)=0 from rfl] at h0
   rcases h0 with h0 | ⟨r,h0,h3⟩
   ·rw[h0]
    simp -implicitDefEqProofs only[Option.bind_eq_bind,Option.bind_some]
    rw[AU (by omega)]
    exact ih (i+1) (by omega) (by omega)
   ·rw[h0];exact .inr ⟨r,rfl,h3⟩
 have h0:=l0 g.Ops.length 0 (by omega) (by omega)
 rw[show ((0:Nat):Int)=0 from rfl] at h0
 unfold Ah
 rcases h0 with h0 | ⟨r,h0,h3⟩
 ·rw[h0];exact⟨_,rfl,.inl (by decide)⟩
 ·rw[h0];exact⟨r,rfl,.inr h3⟩
inductive Hl (g:AG) (i:Nat):Nat→Prop
 | self:Hl g i i
 | step {z p:Nat} (hz:z<g.Ops.length) (h:g.Ops[z].Home=(p:Int)) (hp:Hl g i p):Hl g i z
theorem Hl.depth {g:AG} {d:Nat→Nat} {bd:Nat} (w:WF g d bd) {i z:Nat} (h:Hl g i z):d i≤d z:=by
 induction h with
 | self=>exact Nat.le_refl _
 | step hz h hp ih =>
  rcases w.home _ hz with⟨h1,_⟩|⟨q,h1,_,h3⟩
  ·rw[h1] at h;omega
  ·rw[h1] at h
   have e:q=_:=Int.ofNat.inj h
   subst e
   omega
theorem WF.sink {g g':AG} {d:Nat→Nat} {bd:Nat} (w:WF g d bd) {i k:Nat} (hi:i<g.Ops.length) (hk:k<g.Ops.length) (hne:i≠k) (hh:g.Ops[i].Home=g.Ops[k].Home) (hj:g'.Joins=g.Joins) (hl:g'.Ops.length=g.Ops.length)
  (hhome:∀ z (h:z<g.Ops.length) (h':z<g'.Ops.length),g'.Ops[z].Home=if z=i then(k:Int) else g.Ops[z].Home) (hconj:∀ o∈g'.Ops,o.Conj.length≤1000000∧∀ p∈o.Conj,p.size≤1000000):∃ d',WF g' d' (bd+1):=by
 have same:d i=d k:=by
  rcases w.home i hi with⟨h1,h2⟩|⟨p,h1,_,h2⟩
  ·rcases w.home k hk with⟨h3,h4⟩|⟨q,h3,_,h4⟩
   ·omega
   ·rw[h1,h3] at hh;omega
  ·rcases w.home k hk with⟨h3,h4⟩|⟨q,h3,_,h4⟩
   ·rw[h1,h3] at hh;omega
   ·rw[h1,h3] at hh
    have e:p=q:=Int.ofNat.inj hh
    subst e
    omega
 have nk:¬ Hl g i k:=by
  intro h
  cases h with
  | self=>exact hne rfl
  | step hz h hp =>
   have h1:=hp.depth w
   rcases w.home k hk with⟨h3,h4⟩|⟨q,h3,_,h4⟩
   ·rw[h3] at h;omega
   ·rw[h3] at h
    have e:q=_:=Int.ofNat.inj h
    subst e
    omega
 refine⟨fun z=>if Hl g i z then d z+1 else d z,⟨by rw[hj];exact w.jl,by rw[hl];exact w.ol,fun z hz=>?_,fun z hz=>?_,hconj,by rw[hj];exact w.jp⟩⟩
 ·have:=w.bound z (by omega)
  split <;> omega
 ·have hz':z<g.Ops.length:=by omega
  rw[hhome z hz' hz]
  by_cases hzi:z=i
  ·subst hzi
   rw[if_pos rfl]
   exact .inr ⟨k,rfl,by omega,by rw[if_pos Hl.self,if_neg nk];omega⟩
  ·rw[if_neg hzi]
   rcases w.home z hz' with⟨h1,h2⟩|⟨p,h1,h2,h3⟩
   ·refine .inl ⟨h1,?_⟩
    have:¬ Hl g i z:=by
     intro h
     cases h with
     | self=>exact hzi rfl
     | step _ h _=>rw[h1] at h;omega
    rw[if_neg this];exact h2
   ·refine .inr ⟨p,h1,by omega,?_⟩
    have iff:Hl g i z ↔ Hl g i p:=by
     constructor
     ·intro h
      cases h with
      | self=>exact absurd rfl hzi
      | step _ h hp =>
       rw[h1] at h
       have e:p=_:=Int.ofNat.inj h
       subst e
       exact hp
     ·intro h;exact .step hz' h1 h
    by_cases hb:Hl g i p
    ·rw[if_pos (iff.2 hb),if_pos hb];omega
    ·rw[if_neg (fun h=>hb (iff.1 h)),if_neg hb];exact h3
def wtC (l:List AB):Nat:=(l.map AB.size).sum
def wtG (g:AG):Nat:=(g.Joins.map fun j=>j.Pred.size).sum+(g.Ops.map fun o=>wtC o.Conj).sum
theorem Px {α β:Type} (f:α→β) (l:List α) (i:Nat) (x:α) (h:i<l.length) (e:f x=f l[i]):(l.set i x).map f=l.map f:=by
 rw[List.map_set,e]
 apply List.ext_getElem?
 intro j
 rw[List.getElem?_set]
 split
 ·rename_i hj;subst hj
  simp[h]
 ·rfl
theorem AIf (x z:AG) (hx:x.Ops.length≤1000):∀ (n i:Nat),x.Ops.length * x.Ops.length+1 - i=n→∀ (g:AG) (d:Nat→Nat) (bd:Nat),WF g d bd→g.Ops.length=x.Ops.length→∃ r,CE.l0 ((i:Int),x,z,g)=some r∧∃ g' d' bd',(r=.brk (z,g')∨r=.ret g')∧WF g' d' bd'∧g'.Ops.length=g.Ops.length∧g'.Joins.length=g.Joins.length∧wtG g'=wtG g:=by
 have hmul:x.Ops.length * x.Ops.length≤1000000:=Nat.mul_le_mul hx hx
 have hw:w64 ((x.Ops.length:Int) * (x.Ops.length:Int))=((x.Ops.length * x.Ops.length:Nat):Int):=by
  rw[← Int.natCast_mul]
  exact Ge (by omega) (by omega)
 intro n
 induction n with
 | zero =>
  intro i h1 g d bd w hl
  rw[CE.l0,if_neg (by dsimp only;rw[hw];simp only[decide_eq_true_eq];omega)]
  exact⟨_,rfl,g,d,bd,.inl rfl,w,rfl,rfl,rfl⟩
 | succ n ih =>
  intro i h1 g d bd w hl
  rw[CE.l0,if_pos (by dsimp only;rw[hw];simp only[decide_eq_true_eq];omega)]
  dsimp only
  obtain⟨r,hr,hcase⟩:=ABv w
  rw[hr]
  simp -implicitDefEqProofs only[Option.bind_eq_bind,Option.bind_some]
  rcases hcase with h2 | ⟨a,k,rfl,hne,ha,hk,hh⟩
  ·rw[if_pos (decide_eq_true h2)];exact⟨_,rfl,g,d,bd,.inr rfl,w,rfl,rfl,rfl⟩
  ·rw[if_neg (by simp only[decide_eq_true_eq];omega)]
   dsimp only
   rw[Ag ha]
   simp -implicitDefEqProofs only[Option.bind_some]
   rw[Int.toNat_natCast,Int.toNat_natCast]
   generalize hO:(⟨g.Ops[a].Kind,g.Ops[a].Conj,g.Ops[a].Left,g.Ops[a].Right,g.Ops[a].Own,(k:Int)⟩:AK)=o1
   have hset:(g.Ops.set a o1).length=g.Ops.length:=List.length_set
   have gk:AX (g.Ops.set a o1) (k:Int)=some g.Ops[k]:=by
    rw[Ag (by omega)]
    congr 1
    rw[List.getElem_set_ne hne]
   have ga:AX (g.Ops.set a o1) (a:Int)=some o1:=by
    rw[Ag (by omega)]
    congr 1
    rw[List.getElem_set_self]
   rw[gk]
   simp -implicitDefEqProofs only[Option.bind_some]
   rw[ga]
   simp -implicitDefEqProofs only[Option.bind_some]
   rw[AU (by omega)]
   have hsink:=w.sink (g':=⟨g.Joins,(g.Ops.set a o1).set k ⟨g.Ops[k].Kind,g.Ops[k].Conj,g.Ops[k].Left,g.Ops[k].Right,g.Ops[k].Own|||o1.Own,g.Ops[k].Home⟩⟩) ha hk hne hh rfl (by simp) (fun z h h'=>by
    dsimp only
    by_cases hz:z=a
    ·subst hz
     rw[if_pos rfl,List.getElem_set_ne (fun e=>hne e.symm),List.getElem_set_self,← hO]
    ·rw[if_neg hz]
     by_cases hzk:z=k
     ·subst hzk;rw[List.getElem_set_self]
     ·rw[List.getElem_set_ne (fun e=>hzk e.symm),List.getElem_set_ne (fun e=>hz e.symm)]) (fun o ho=>by
    have hc:=w.conj
    rcases List.mem_or_eq_of_mem_set ho with h | h
    ·rcases List.mem_or_eq_of_mem_set h with h | h
     ·exact hc o h
     ·rw[h,← hO];exact hc g.Ops[a] (List.getElem_mem ha)
    ·rw[h];exact hc g.Ops[k] (List.getElem_mem hk))
   obtain⟨d',w'⟩:=hsink
   obtain⟨r,h5,g'',d'',bd'',h6,h7,h8,h9,h10⟩:=ih (i+1) (by omega) _ d' _ w' (by simp;omega)
   refine⟨r,h5,g'',d'',bd'',h6,h7,by rw[h8];simp,h9,?_⟩
   rw[h10]
   unfold wtG
   dsimp only
   rw[Px (fun o=>wtC o.Conj) (g.Ops.set a o1) k _ (by omega) (by rw[List.getElem_set_ne hne]),Px (fun o=>wtC o.Conj) g.Ops a o1 ha (by rw[← hO])]
theorem ADF {g:AG} {d:Nat→Nat} {bd:Nat} (w:WF g d bd):∃ g' d' bd',CE g=some g'∧WF g' d' bd'∧g'.Ops.length=g.Ops.length∧g'.Joins.length=g.Joins.length∧wtG g'=wtG g:=by
 have ol:=w.ol
 have jl:=w.jl
 unfold CE FX
 rw[Bp (by simp;omega),Bp (by simp;omega)]
 simp -implicitDefEqProofs only[Option.bind_eq_bind,Option.bind_some,List.nil_append]
 obtain⟨r,h1,g',d',bd',h2,h3,h4,h5,h6⟩:=AIf g ⟨[],[]⟩ ol _ 0 rfl ⟨g.Joins,g.Ops⟩ d bd w rfl
 rw[show ((0:Nat):Int)=0 from rfl] at h1
 rw[h1]
 simp -implicitDefEqProofs only[Option.bind_some]
 rcases h2 with rfl | rfl
 ·exact⟨g',d',bd',rfl,h3,h4,h5,h6⟩
 ·exact⟨g',d',bd',rfl,h3,h4,h5,h6⟩
theorem ABb {t:AA} {g:AG} {d:Nat→Nat} {bd:Nat} (h:AP t=some g) (w:WF g d bd):∃ es,BD t=some es∧es.length≤101000∧(∀ e∈es,e.Preds.length≤1000000∧∀ p∈e.Preds,p.size≤1000000)∧(es.map fun e=>wtC e.Preds).sum=wtG g:=by
 obtain⟨g',d',bd',h1,w',h2,h3,h4⟩:=ADF w
 rw[← h4]
 clear h4
 have ol:=w'.ol
 have jl:=w'.jl
 unfold BD
 rw[h]
 simp -implicitDefEqProofs only[Option.bind_eq_bind,Option.bind_some]
 rw[h1]
 simp -implicitDefEqProofs only[Option.bind_some]
 have k0:∀ n j (acc:List AD),g'.Joins.length - j=n→j≤g'.Joins.length→acc.length≤j→(∀ e∈acc,e.Preds.length≤1000000∧∀ p∈e.Preds,p.size≤1000000)→∃ o,BD.l0 (acc,(j:Int),g')=some o∧o.length≤g'.Joins.length∧(∀ e∈o,e.Preds.length≤1000000∧∀ p∈e.Preds,p.size≤1000000)∧(o.map fun e=>wtC e.Preds).sum=(acc.map fun e=>wtC e.Preds).sum+((g'.Joins.drop j).map fun j=>j.Pred.size).sum:=by
  intro n
  induction n with
  | zero=>intro j acc h4 h5 h6 h7;rw[BD.l0,if_neg (dge (by dsimp only;omega))];exact⟨_,rfl,by dsimp only;omega,h7,by rw[List.drop_eq_nil_of_le (by omega)];simp⟩
  | succ n ih =>
   intro j acc h4 h5 h6 h7
   have hj:j<g'.Joins.length:=by omega
   rw[BD.l0,if_pos (dlt (by dsimp only;omega))]
   dsimp only
   obtain⟨a,ha⟩:=Pg w' g'.Joins[j].Home g'.Joins[j].Left
   obtain⟨b,hb⟩:=Pg w' g'.Joins[j].Home g'.Joins[j].Right
   rw[Ag hj]
   simp -implicitDefEqProofs only[Option.bind_eq_bind,Option.bind_some]
   rw[ha,hb]
   simp -implicitDefEqProofs only[Option.bind_some]
   rw[Bp (by simp only[List.length_cons,List.length_nil];omega),AU (by omega)]
   simp -implicitDefEqProofs only[Option.bind_some]
   have hacc:∀ e∈acc++[(⟨1,[g'.Joins[j].Pred],g'.Joins[j].Left|||g'.Joins[j].Right,a,b⟩:AD)],e.Preds.length≤1000000∧∀ p∈e.Preds,p.size≤1000000:=by
    intro e he
    rcases List.mem_append.1 he with he | he
    ·exact h7 e he
    ·rw[List.mem_singleton] at he
     subst he
     refine⟨by simp,fun p hp=>?_⟩
     rw[List.mem_singleton] at hp
     subst hp
     exact w'.jp _ (List.getElem_mem hj)
   obtain⟨o,q1,q2,q3,q4⟩:=ih (j+1) (acc++[(⟨1,[g'.Joins[j].Pred],g'.Joins[j].Left|||g'.Joins[j].Right,a,b⟩:AD)]) (by omega) (by omega) (by rw[CF];omega) hacc
   refine⟨o,q1,q2,q3,?_⟩
   rw[q4,List.drop_eq_getElem_cons hj]
   simp only[List.map_append,List.sum_append,List.map_cons,List.map_nil,List.sum_cons,List.sum_nil,wtC]
   try omega
 have k1:∀ n j (acc:List AD),g'.Ops.length - j=n→j≤g'.Ops.length→acc.length≤100000+j→(∀ e∈acc,e.Preds.length≤1000000∧∀ p∈e.Preds,p.size≤1000000)→∃ o,BD.l1 (acc,(j:Int),g')=some o∧o.length≤101000∧(∀ e∈o,e.Preds.length≤1000000∧∀ p∈e.Preds,p.size≤1000000)∧(o.map fun e=>wtC e.Preds).sum=(acc.map fun e=>wtC e.Preds).sum+((g'.Ops.drop j).map fun o=>wtC o.Conj).sum:=by
  intro n
  induction n with
  | zero=>intro j acc h4 h5 h6 h7;rw[BD.l1,if_neg (dge (by dsimp only;omega))];exact⟨_,rfl,by dsimp only;omega,h7,by rw[List.drop_eq_nil_of_le (by omega)];simp⟩
  | succ n ih =>
   intro j acc h4 h5 h6 h7
   have hj:j<g'.Ops.length:=by omega
   rw[BD.l1,if_pos (dlt (by dsimp only;omega))]
   dsimp only
   obtain⟨a,ha⟩:=Pg w' g'.Ops[j].Home g'.Ops[j].Left
   obtain⟨b,hb⟩:=XC w' (j:Int)
   rw[Ag hj]
   simp -implicitDefEqProofs only[Option.bind_eq_bind,Option.bind_some]
   rw[ha,hb]
   simp -implicitDefEqProofs only[Option.bind_some]
   rw[Bp (by simp only[List.length_cons,List.length_nil];omega),AU (by omega)]
   simp -implicitDefEqProofs only[Option.bind_some]
   have hacc:∀ e∈acc++[(⟨g'.Ops[j].Kind,g'.Ops[j].Conj,g'.Ops[j].Left|||g'.Ops[j].Right,a,b⟩:AD)],e.Preds.length≤1000000∧∀ p∈e.Preds,p.size≤1000000:=by
    intro e he
    rcases List.mem_append.1 he with he | he
    ·exact h7 e he
    ·rw[List.mem_singleton] at he
     subst he
     exact w'.conj _ (List.getElem_mem hj)
   obtain⟨o,q1,q2,q3,q4⟩:=ih (j+1) (acc++[(⟨g'.Ops[j].Kind,g'.Ops[j].Conj,g'.Ops[j].Left|||g'.Ops[j].Right,a,b⟩:AD)]) (by omega) (by omega) (by rw[CF];omega) hacc
   refine⟨o,q1,q2,q3,?_⟩
   rw[q4,List.drop_eq_getElem_cons hj]
   simp only[List.map_append,List.sum_append,List.map_cons,List.map_nil,List.sum_cons,List.sum_nil]
   try omega
 obtain⟨o,e0,e1,e4,e5⟩:=k0 _ 0 [] rfl (by omega) (by simp) (fun e he=>by cases he)
 rw[show ((0:Nat):Int)=0 from rfl] at e0
 rw[e0]
 simp -implicitDefEqProofs only[Option.bind_some]
 obtain⟨o2,e2,e3,e6,e7⟩:=k1 _ 0 o rfl (by omega) (by omega) e4
 rw[show ((0:Nat):Int)=0 from rfl] at e2
 rw[e2]
 refine⟨_,rfl,e3,e6,?_⟩
 rw[e7,e5]
 simp only[List.map_nil,List.sum_nil,List.drop_zero,Nat.zero_add]
 rfl
end
section
structure JY where
 Pred:AB
 Left:AC
 Right:AC
 Home:Int
structure Fb where
 Kind:Int
 Conj:List AB
 Left:AC
 Right:AC
 Own:AC
 Home:Int
structure Ew where
 Joins:List JY
 Ops:List Fb
def Vc (x:AA × Int):Fb:=⟨x.1.Kind,x.1.Conj,KQ x.1.Conj&&&NV x.1,KQ x.1.Conj&&&WT x.1,WT x.1,x.2⟩
def mkJ (x:AA × Int):List JY:=x.1.Conj.map fun p=>⟨p,p.tabs&&&NV x.1,p.tabs&&&WT x.1,x.2⟩
def Es (l:List (AA × Int)):List Fb:=(l.filter fun x=>decide (1<x.1.Kind)).map Vc
def Dp (l:List (AA × Int)):List JY:=l.flatMap fun x=>if x.1.Kind=1 then mkJ x else []
theorem NW (l l':List (AA × Int)):Es (l++l')=Es l++Es l':=by unfold Es;rw[List.filter_append,List.map_append]
theorem Xn (l l':List (AA × Int)):Dp (l++l')=Dp l++Dp l':=by unfold Dp;rw[List.flatMap_append]
theorem Il {cols:List Int} (t:AA):OkT cols t→∀ off home,(EC t off home).map Prod.fst=t.tour:=by
 induction t using AA.induct with
 | h t ih =>
  intro ok off home
  cases ok.self with
  | leaf hk hks=>rw[Vi hks,ABY hks];rfl
  | op a b hk1 hk2 hks =>
   rw[Vg hks,Mv hks,List.map_append,List.map_append,ih a (by rw[hks];simp) (ok.kid (by rw[hks];simp)),ih b (by rw[hks];simp) (ok.kid (by rw[hks];simp))];rfl
theorem OK {cols:List Int} {t:AA} (ok:OkT cols t) (off:Nat) (home:Int):(Es (EC t off home)).length=CO t:=by
 unfold Es CO MM
 rw[List.length_map,← Il t ok off home,List.filter_map,List.length_map];rfl
theorem Ut {cols:List Int} {t:AA} (ok:OkT cols t) (off:Nat) (home:Int):(Dp (EC t off home)).length≤Dn t.tour:=by
 rw[← Il t ok off home]
 generalize EC t off home=l
 induction l with
 | nil=>simp[Dp]
 | cons x l ih =>
  have:Dp (x :: l)=(if x.1.Kind=1 then mkJ x else [])++Dp l:=rfl
  rw[this,List.length_append,List.map_cons,Ny]
  split
  ·unfold mkJ;rw[List.length_map];omega
  ·simp only[List.length_nil];omega
end
section
theorem TN {α:Type} (pre:List α) (x:α) (post:List α):AX (pre++x :: post) (pre.length:Int)=some x:=by
 have h:pre.length<(pre++x :: post).length:=by rw[List.length_append,List.length_cons];omega
 rw[Ag h]
 congr 1
 rw[List.getElem_append_right (Nat.le_refl _)];simp
theorem AI8 {α:Type} (pre:List α) (x y:α) (post:List α):(pre++x :: post).set pre.length y=pre++y :: post:=by
 rw[List.set_append_right _ _ (Nat.le_refl _)];simp
theorem FS {α:Type} (pre:List α) (x:α):(pre++[x]).length=pre.length+1:=by rw[List.length_append];rfl
def RT (t:AA):Ew:=⟨Dp (EC t 0 (-1)),Es (EC t 0 (-1))⟩
end
section
def ABM (owns:List AC) (S:AC) (home:Int):Prop :=
 (home = -1∧∀ k (h:k<owns.length),¬ inS S owns[k]=true) ∨
 (∃ j,∃ h:j<owns.length,home=(j:Int)∧inS S owns[j]=true∧∀ k (hk:k<owns.length),k≠j→inS S owns[k]=true→cnt owns[j]<cnt owns[k])
theorem AJG {all:List AA} {owns:List AC} {i:Int} {l r:AC} {g0 g:AG} {t:AA} {home:Int} (hlen:owns.length≤1000000) (hs:ABM owns (l|||r) home) :
  AP.l2 (all,owns,i,l,r, -1,0,g0,g,t)=some home:=by
 have key:∀ n k (cur:Int),owns.length - k=n→k≤owns.length→(cur = -1∨∃ c,∃ h:c<owns.length,c<k∧cur=(c:Int)∧inS (l|||r) owns[c]=true)→(∀ j:Nat,home=(j:Int)→j<k→cur=home) →
   AP.l2 (all,owns,i,l,r,cur,(k:Int),g0,g,t)=some home:=by
  intro n
  induction n with
  | zero =>
   intro k cur h1 h2 hc hj
   obtain rfl:k=owns.length:=by omega
   rw[AP.l2,if_neg (dge (by dsimp only;omega))]
   dsimp only
   rcases hs with⟨rfl,hn⟩|⟨j,hjl,rfl,_,_⟩
   ·rcases hc with rfl | ⟨c,hcl,_,_,hin⟩
    ·rfl
    ·exact absurd hin (hn c hcl)
   ·rw[hj j rfl hjl]
  | succ n ih =>
   intro k cur h1 h2
   have hk:k<owns.length:=by omega
   have hA:owns.length - (k+1)=n:=by omega
   have hB:k+1≤owns.length:=by omega
   have hC:k+1<9223372036854775808:=by omega
   have hk':(k:Int)<(owns.length:Int):=by omega
   intro hc hj
   rw[AP.l2,if_pos (dlt hk')]
   dsimp only
   rw[Ag hk,AU hC]
   simp -implicitDefEqProofs only[Option.bind_eq_bind,Option.bind_some]
   rw[JI]
   simp -implicitDefEqProofs only[Option.bind_some]
   by_cases hin:inS (l|||r) owns[k]=true
   ·rw[if_pos hin]
    have new:∀ hh:(∀ j:Nat,home=(j:Int)→j<k→False),AP.l2 (all,owns,i,l,r,(k:Int),((k+1:Nat):Int),g0,g,t)=some home:=by
     intro hh
     refine ih (k+1) (k:Int) hA hB (.inr ⟨k,hk,Nat.lt_succ_self k,rfl,hin⟩) fun j e hlt=>?_
     rcases Nat.lt_or_ge j k with h | h
     ·exact(hh j e h).elim
     ·have:j=k:=by omega
      rw[e,this]
    rcases hc with rfl | ⟨c,hcl,hck,rfl,hcin⟩
    ·rw[if_pos (by simp)]
     refine new fun j e h=>?_
     have:=hj j e h;omega
    ·rw[if_neg (by simp),Ns,Ag hcl]
     simp -implicitDefEqProofs only[Option.bind_some]
     rw[Ns]
     simp -implicitDefEqProofs only[Option.bind_some]
     by_cases hlt:cnt owns[k]<cnt owns[c]
     ·rw[if_pos (by simpa using hlt)]
      refine new fun j e h=>?_
      have h5:=hj j e h
      rcases hs with⟨e0,_⟩|⟨j',hjl,e',_,hmin⟩
      ·omega
      ·obtain rfl:j'=j:=by omega
       obtain rfl:c=j':=by omega
       have:=hmin k hk (by omega) hin
       omega
     ·rw[if_neg (by simpa using hlt)]
      refine ih (k+1) (c:Int) hA hB (.inr ⟨c,hcl,by omega,rfl,hcin⟩) fun j e h=>?_
      rcases Nat.lt_or_ge j k with h5 | h5
      ·exact hj j e h5
      ·obtain rfl:j=k:=by omega
       rcases hs with⟨e0,_⟩|⟨j',hjl,e',_,hmin⟩
       ·omega
       ·obtain rfl:j'=j:=by omega
        have:=hmin c hcl (by omega) hcin
        omega
   ·rw[if_neg hin]
    refine ih (k+1) cur hA hB ?_ fun j e h=>?_
    ·rcases hc with h | ⟨c,hcl,hck,e,hcin⟩
     ·exact .inl h
     ·exact .inr ⟨c,hcl,by omega,e,hcin⟩
    ·rcases Nat.lt_or_ge j k with h5 | h5
     ·exact hj j e h5
     ·obtain rfl:j=k:=by omega
      rcases hs with⟨e0,_⟩|⟨j',hjl,e',hin',hmin⟩
      ·omega
      ·obtain rfl:j'=j:=by omega
       exact absurd hin' hin
 have:=key owns.length 0 (-1) (by omega) (by omega) (.inl rfl) (fun j _ h=>by omega)
 exact this
theorem Mp {t a b:AA} (h:t.Kids=[a,b]) (hk:1≤t.Kind) (n:Int):AY (AS t) n=true ↔ AY (AS a) n=true∨AY (AS b) n=true:=by
 have:AS t=AS a|||AS b:=by
  unfold AS
  rw[Mv h,Ct,Ct,GV [] (by omega)]
  have:Ad []=[]:=rfl
  rw[this,List.append_nil,Oe]
 rw[this,WP,Bool.or_eq_true]
theorem Yq {cols:List Int} {l:List AA} (h:∀ y∈l,WJ cols y):∀ n∈Ad l,0≤n∧n<(cols.length:Int):=by
 intro n hn
 unfold Ad at hn
 obtain⟨y,hy,rfl⟩:=List.mem_map.1 hn
 obtain⟨hy,hk⟩:=List.mem_filter.1 hy
 cases h y hy with
 | leaf _ _ _ h0 h1=>exact⟨h0,h1⟩
 | op a b hk1=>simp only[beq_iff_eq] at hk;omega
theorem Hc {cols:List Int} (hc:cols.length≤64) {t:AA} (ok:OkT cols t) (n:Int):AY (AS t) n=true ↔ n∈Ad t.tour:=by
 unfold AS
 rw[AGN]
 constructor
 ·exact fun h=>h.2.2
 ·intro h
  have:=Yq ok n h
  exact⟨by omega,by omega,h⟩
theorem Lo {cols:List Int} (hc:cols.length≤64) (t:AA):OkT cols t→∃ n,AY (AS t) n=true:=by
 induction t using AA.induct with
 | h t ih =>
  intro ok
  cases ok.self with
  | leaf hk hks =>
   refine⟨t.Table,(Hc hc ok _).2 ?_⟩
   rw[ABY hks,II [] hk];exact List.mem_cons_self
  | op a b hk1 hk2 hks =>
   obtain⟨n,hn⟩:=ih a (by rw[hks];simp) (ok.kid (by rw[hks];simp))
   exact⟨n,(Mp hks hk1 n).2 (.inl hn)⟩
theorem AEI {t a b:AA} (h:t.Kids=[a,b]) (hk:1≤t.Kind) (hnd:(Ad t.tour).Nodup):(Ad a.tour).Nodup∧(Ad b.tour).Nodup∧∀ n,n∈Ad a.tour→n∈Ad b.tour→False:=by
 rw[Mv h,Ct,Ct,GV [] (by omega)] at hnd
 have e:Ad []=[]:=rfl
 rw[e,List.append_nil] at hnd
 obtain⟨h1,h2,h3⟩:=List.nodup_append.1 hnd
 exact⟨h1,h2,fun n ha hb=>h3 n ha n hb rfl⟩
def De (l:List AA):List AC:=(MM l).map WT
theorem Fg (l l':List AA):De (l++l')=De l++De l':=by unfold De;rw[AAc,List.map_append]
theorem EY (t:AA):(De t.tour).length=CO t:=List.length_map _
theorem Uq {t a b:AA} (h:t.Kids=[a,b]):De [t]=if 1<t.Kind then [AS b] else []:=by
 unfold De MM
 by_cases e:1<t.Kind
 ·rw[List.filter_cons_of_pos (by simpa using e),if_pos e];simp[RJ h]
 ·rw[List.filter_cons_of_neg (by simpa using e),if_neg e];rfl
theorem VK {cols:List Int} (hc:cols.length≤64) (t:AA):OkT cols t→(Ad t.tour).Nodup→∀ s∈De t.tour,(∀ n,AY s n=true→AY (AS t) n=true)∧∃ n,AY (AS t) n=true∧¬ AY s n=true:=by
 induction t using AA.induct with
 | h t ih =>
  intro ok hnd s hs
  cases ok.self with
  | leaf hk hks =>
   rw[ABY hks] at hs
   simp[De,MM,hk] at hs
  | op a b hk1 hk2 hks =>
   have oka:OkT cols a:=ok.kid (by rw[hks];simp)
   have okb:OkT cols b:=ok.kid (by rw[hks];simp)
   obtain⟨na,nb,hd⟩:=AEI hks hk1 hnd
   obtain⟨xa,hxa⟩:=Lo hc a oka
   obtain⟨xb,hxb⟩:=Lo hc b okb
   rw[Mv hks,Fg,Fg,List.mem_append,List.mem_append] at hs
   rcases hs with (hs | hs) | hs
   ·obtain⟨h1,_⟩:=ih a (by rw[hks];simp) oka na s hs
    refine⟨fun n hn=>(Mp hks hk1 n).2 (.inl (h1 n hn)),xb,(Mp hks hk1 xb).2 (.inr hxb),fun hn=>hd xb ((Hc hc oka _).1 (h1 xb hn)) ((Hc hc okb _).1 hxb)⟩
   ·obtain⟨h1,_⟩:=ih b (by rw[hks];simp) okb nb s hs
    refine⟨fun n hn=>(Mp hks hk1 n).2 (.inr (h1 n hn)),xa,(Mp hks hk1 xa).2 (.inl hxa),fun hn=>hd xa ((Hc hc oka _).1 hxa) ((Hc hc okb _).1 (h1 xa hn))⟩
   ·rw[Uq hks] at hs
    split at hs
    ·have:s=AS b:=by simpa using hs
     subst this
     exact⟨fun n hn=>(Mp hks hk1 n).2 (.inr hn),xa,(Mp hks hk1 xa).2 (.inl hxa),fun hn=>hd xa ((Hc hc oka _).1 hxa) ((Hc hc okb _).1 hn)⟩
    ·cases hs
structure ZV (owns:List AC) (off n:Nat) (S:AC) (home:Int):Prop where
 at_:home = -1∨∃ j,∃ h:j<owns.length,home=(j:Int)∧(j<off∨off+n≤j)∧∀ m,AY S m=true→AY owns[j] m=true
 off_:∀ k (h:k<owns.length),(k<off∨off+n≤k)→(k:Int)≠home→(∀ m,AY S m=true→¬ AY owns[k] m=true) ∨
  ((∀ m,AY S m=true→AY owns[k] m=true)∧∃ j,∃ hj:j<owns.length,home=(j:Int)∧cnt owns[j]<cnt owns[k])
theorem OJ {α:Type} {l l' r:List α} {off:Nat} (h:l.drop off=l'++r) {k:Nat} (h1:off≤k) (h2:k<off+l'.length) (hk:k<l.length):l[k]∈l':=by
 have e:(l.drop off)[k - off]'(by rw[List.length_drop];omega)=l[k]:=by
  rw[List.getElem_drop]
  congr 1;omega
 rw[← e]
 have e2:(l.drop off)[k - off]'(by rw[List.length_drop];omega)=(l'++r)[k - off]'(by rw[List.length_append];omega):=by
  congr 1
 rw[e2,List.getElem_append_left (by omega)]
 exact List.getElem_mem _
theorem AGL {cols:List Int} (hc:cols.length≤64) (owns:List AC) (t:AA):OkT cols t→(Ad t.tour).Nodup→∀ (off:Nat) (home:Int) (rest:List AC),owns.drop off=De t.tour++rest→ZV owns off (CO t) (AS t) home →
  ∀ x∈EC t off home,x.1.Kind≠0→ABM owns (AS x.1) x.2:=by
 induction t using AA.induct with
 | h t ih =>
  intro ok hnd off home rest hdrop har
  cases hself:ok.self with
  | leaf hk hks =>
   rw[Vi hks]
   intro x hx hk'
   have:x=(t,home):=by simpa using hx
   subst this
   exact absurd hk hk'
  | op a b hk1 hk2 hks =>
   have oka:OkT cols a:=ok.kid (by rw[hks];simp)
   have okb:OkT cols b:=ok.kid (by rw[hks];simp)
   obtain⟨na,nb,hd⟩:=AEI hks hk1 hnd
   have hdis:∀ n,AY (AS a) n=true→AY (AS b) n=true→False:=fun n h1 h2=>hd n ((Hc hc oka _).1 h1) ((Hc hc okb _).1 h2)
   obtain⟨xa,hxa⟩:=Lo hc a oka
   obtain⟨xb,hxb⟩:=Lo hc b okb
   obtain⟨xt,hxt⟩:=Lo hc t ok
   have ht:=Mp hks hk1
   have hn1:(De [t]).length=if 1<t.Kind then 1 else 0:=by rw[Uq hks];split <;> rfl
   have hnt:CO t=CO a+CO b+(De [t]).length:=by
    rw[← EY,← EY,← EY,Mv hks,Fg,Fg,List.length_append,List.length_append]
   have hlen:off+CO t≤owns.length∨CO t=0:=by
    have:=congrArg List.length hdrop
    rw[List.length_drop,List.length_append,EY] at this
    omega
   have dt:∀ k,off≤k→k<off+CO t→∀ hk:k<owns.length,owns[k]∈De t.tour:=fun k h1 h2 hk=>OJ hdrop h1 (by rw[EY];exact h2) hk
   have dropa:owns.drop off=De a.tour++(De b.tour++(De [t]++rest)):=by
    rw[hdrop,Mv hks,Fg,Fg,List.append_assoc,List.append_assoc]
   have dropb:owns.drop (off+CO a)=De b.tour++(De [t]++rest):=by
    rw[← List.drop_drop,dropa,← EY a,List.drop_left]
   have drops:owns.drop (off+CO a+CO b)=De [t]++rest:=by
    rw[← List.drop_drop,dropb,← EY b,List.drop_left]
   have da:∀ k,off≤k→k<off+CO a→∀ hk:k<owns.length,owns[k]∈De a.tour:=fun k h1 h2 hk=>OJ dropa h1 (by rw[EY];exact h2) hk
   have db:∀ k,off+CO a≤k→k<off+CO a+CO b→∀ hk:k<owns.length,owns[k]∈De b.tour:=fun k h1 h2 hk=>OJ dropb h1 (by rw[EY];exact h2) hk
   have ds:∀ k,off+CO a+CO b≤k→k<off+CO t→∀ hk:k<owns.length,owns[k]=AS b:=fun k h1 h2 hk=>by
    have:=OJ drops h1 (by omega) hk
    rw[Uq hks] at this
    split at this
    ·simpa using this
    ·cases this
   -- the part on the left
   have ara:ZV owns off (CO a) (AS a) home:=by
    refine⟨?_,fun k hk hout hne=>?_⟩
    ·rcases har.at_ with h | ⟨j,hj,e,ho,hin⟩
     ·exact .inl h
     ·exact .inr ⟨j,hj,e,by omega,fun m hm=>hin m ((ht m).2 (.inl hm))⟩
    ·by_cases hin:k<off∨off+CO t≤k
     ·rcases har.off_ k hk hin hne with h | ⟨h,h'⟩
      ·exact .inl fun m hm=>h m ((ht m).2 (.inl hm))
      ·exact .inr ⟨fun m hm=>h m ((ht m).2 (.inl hm)),h'⟩
     ·left
      intro m hm hko
      rcases Nat.lt_or_ge k (off+CO a+CO b) with h | h
      ·exact hdis m hm ((VK hc b okb nb _ (db k (by omega) h hk)).1 m hko)
      ·rw[ds k h (by omega) hk] at hko
       exact hdis m hm hko
   -- the part on the right
   have arb:ZV owns (off+CO a) (CO b) (AS b) (if 1<t.Kind then((off+CO a+CO b:Nat):Int) else home):=by
    by_cases e:1<t.Kind
    ·rw[if_pos e]
     rw[if_pos e] at hn1
     have hj:off+CO a+CO b<owns.length:=by omega
     have ej:=ds (off+CO a+CO b) (Nat.le_refl _) (by omega) hj
     refine⟨.inr ⟨off+CO a+CO b,hj,rfl,by omega,fun m hm=>by rw[ej];exact hm⟩,fun k hk hout hne=>?_⟩
     have hbig:(∀ m,AY (AS t) m=true→AY owns[k] m=true)→(∀ m,AY (AS b) m=true→AY owns[k] m=true)∧∃ j,∃ hj:j<owns.length,((off+CO a+CO b:Nat):Int)=(j:Int)∧cnt owns[j]<cnt owns[k]:=by
      intro h
      refine⟨fun m hm=>h m ((ht m).2 (.inr hm)),off+CO a+CO b,hj,rfl,?_⟩
      rw[ej]
      exact ADT (fun m hm=>h m ((ht m).2 (.inr hm))) ⟨xa,h xa ((ht xa).2 (.inl hxa)),fun hb=>hdis xa hxa hb⟩
     by_cases hin:k<off∨off+CO t≤k
     ·by_cases hh:(k:Int)=home
      ·rcases har.at_ with h | ⟨j,hj',e',ho,hin'⟩
       ·omega
       ·obtain rfl:j=k:=by omega
        exact .inr (hbig hin')
      ·rcases har.off_ k hk hin hh with h | ⟨h,h'⟩
       ·exact .inl fun m hm=>h m ((ht m).2 (.inr hm))
       ·exact .inr (hbig h)
     ·left
      intro m hm hko
      exact hdis m ((VK hc a oka na _ (da k (by omega) (by omega) hk)).1 m hko) hm
    ·rw[if_neg e]
     rw[if_neg e] at hn1
     refine⟨?_,fun k hk hout hne=>?_⟩
     ·rcases har.at_ with h | ⟨j,hj,e,ho,hin⟩
      ·exact .inl h
      ·exact .inr ⟨j,hj,e,by omega,fun m hm=>hin m ((ht m).2 (.inr hm))⟩
     ·by_cases hin:k<off∨off+CO t≤k
      ·rcases har.off_ k hk hin hne with h | ⟨h,h'⟩
       ·exact .inl fun m hm=>h m ((ht m).2 (.inr hm))
       ·exact .inr ⟨fun m hm=>h m ((ht m).2 (.inr hm)),h'⟩
      ·left
       intro m hm hko
       exact hdis m ((VK hc a oka na _ (da k (by omega) (by omega) hk)).1 m hko) hm
   rw[Vg hks]
   intro x hx hkx
   rw[List.mem_append,List.mem_append] at hx
   rcases hx with (hx | hx) | hx
   ·exact ih a (by rw[hks];simp) oka na off home _ dropa ara x hx hkx
   ·exact ih b (by rw[hks];simp) okb nb (off+CO a) _ _ dropb arb x hx hkx
   ·have:x=(t,home):=by simpa using hx
    subst this
    dsimp only
    have inr:∀ k (hk:k<owns.length),inS (AS t) owns[k]=true→(k<off∨off+CO t≤k):=by
     intro k hk hin
     rcases Nat.lt_or_ge k off with h | h
     ·exact .inl h
     rcases Nat.lt_or_ge k (off+CO t) with h' | h'
     ·obtain⟨_,m,hm,hm'⟩:=VK hc t ok hnd _ (dt k h h' hk)
      exact absurd ((RA _ _).1 hin m hm) hm'
     ·exact .inr h'
    rcases har.at_ with rfl | ⟨j,hj,rfl,ho,hin⟩
    ·refine .inl ⟨rfl,fun k hk hin=>?_⟩
     rcases har.off_ k hk (inr k hk hin) (by omega) with h | ⟨_,j,hj,e,_⟩
     ·exact h xt hxt ((RA _ _).1 hin xt hxt)
     ·omega
    ·refine .inr ⟨j,hj,rfl,(RA _ _).2 hin,fun k hk hne hin'=>?_⟩
     rcases har.off_ k hk (inr k hk hin') (by omega) with h | ⟨_,j',hj',e,hlt⟩
     ·exact absurd ((RA _ _).1 hin' xt hxt) (h xt hxt)
     ·obtain rfl:j=j':=by omega
      exact hlt
end
end Go.Proofs.YtjnnhjgjecgomaaGreat.G
