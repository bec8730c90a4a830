/-
Part 2 of the proof of DpsubTells: merged by mkclaim.py (a program of this repo) out of texts of wip/g and printed models.
-/
import Derived.Test.YtjnnhjgjecgomaaGreatDpsubTells1
import Derived.OrdersIn
import Derived.KernelRfl
import Derived.RangeFuncRecord
import Derived.RangeFuncCalls
import Derived.RangeFuncNested
set_option linter.unusedVariables false
set_option linter.unusedSimpArgs false
set_option linter.unusedSectionVars false
set_option maxHeartbeats 8000000
namespace Go.Proofs.YtjnnhjgjecgomaaGreat.G
section
structure LS (w w':World):Prop where
 os:w'.os=w.os
 tape:w'.tape=w.tape
 output:w'.output=w.output
 size:w'.heap.size=w.heap.size
 cells:∀ (b:Nat) (c:Array Value) (t:TypeId) (f:Nat × Nat),w.heap[b]?=some (.cells c t f)→w'.heap[b]?=some (.cells c t f)
section
variable {g:Gh} {m:Mem} {w w':World} {P:Program}
theorem LS.cell (h:LS w w') {b o:Nat} {v:Value} (hc:w.cell? ⟨b,o,none⟩=some v):w'.cell? ⟨b,o,none⟩=some v:=by
 unfold World.cell? at hc ⊢
 dsimp only at hc ⊢
 split at hc
 ·rename_i c t f hb
  rw[h.cells b c t f hb];exact hc
 ·cases hc
theorem LS.own (h:LS w w') {own:Own} {b o len cap sz:Nat} (ho:Ig g w own b o len cap sz):Ig g w' own b o len cap sz:=by
 cases own with
 | foreign=>trivial
 | full=>exact ho
 | row id =>
  refine⟨ho.1,fun b' hb'=>?_⟩
  obtain⟨h1,h2,arr,t,h3,h4⟩:=ho.2 b' hb'
  exact⟨h1,h2,arr,t,h.cells _ _ _ _ h3,h4⟩
theorem Rep.turn {a:AV} {v:Value} (hr:Rep g w a v) (h:LS w w'):Rep g w' a v:=by
 induction hr with
 | atom v hv=>exact .atom v hv
 | ptr l off b hb=>exact .ptr l off b hb
 | yield l b hb=>exact .yield l b hb
 | map l b hb=>exact .map l b hb
 | vptr id off a hs hn ha=>exact .vptr id off a hs hn ha
 | vec id off len sz k a cap hs hz hcap hf hn ha=>exact .vec id off len sz k a cap hs hz hcap hf hn (fun b hb=>let ⟨e,arr,t,h1,h2⟩:=ha b hb;⟨e,arr,t,h.cells _ _ _ _ h1,h2⟩)
 | eptr e off b o vals hi hc hr ho hn ih=>exact .eptr e off b o vals hi (fun j hj=>h.cell (hc j hj)) ih ho hn
 | func f first cap fs vs hlf hrf hl hr ihf ih=>exact .func f first cap fs vs hlf ihf hl ih
 | iface t x v hx ih=>exact .iface t x v ih
 | agg cs vs hl ho hr ih=>exact .agg cs vs hl ho ih
 | tuple cs vs hl hr ih=>exact .tuple cs vs hl ih
 | nil own a cap hown hf=>exact .nil own a cap hown hf
 | slice own es b o cap sz vals hz hs hi hc hr ho hcap hown ih=>exact .slice own es b o cap sz vals hz hs hi (fun j hj=>h.cell (hc j hj)) ih ho hcap (h.own hown)
theorem Bi.turn {as_:List AV} {vs:Array Value} (hr:Bi g w as_ vs) (h:LS w w'):Bi g w' as_ vs:=⟨hr.1,fun j a v ha hv=>(hr.2 j a v ha hv).turn h⟩
theorem Kn.turn {b:Nat} {c:Ck} (hb:Kn g w b c) (h:LS w w') (he:w'.heap[b]?=w.heap[b]?):Kn g w' b c:=by
 cases c with
 | cells cs =>
  obtain⟨vs,t,h1,h2,h3⟩:=hb
  exact⟨vs,t,he.trans h1,h2.turn h,h3⟩
 | loop st pending tmps params assign body =>
  obtain⟨vs,d,fn,h1,h2⟩:=hb
  exact⟨vs,d,fn,he.trans h1,h2.turn h⟩
 | map es clock =>
  obtain⟨vs,h1,h2,h3⟩:=hb
  exact⟨vs,he.trans h1,h2,fun j k a n e hj hv=>let ⟨x,y,z⟩:=h3 j k a n e hj hv;⟨x,y,z.turn h⟩⟩
theorem Nz.turn {b:Nat} {cs:List AV} (hr:Nz g w b cs) (h:LS w w'):Nz g w' b cs :=
 let ⟨arr,t,h1,h2,h3⟩:=hr;⟨arr,t,h.cells _ _ _ _ h1,h2,fun j c hj=>⟨(h3 j c hj).1,fun v hv=>((h3 j c hj).2 v hv).turn h⟩⟩
theorem Aa.turn (hm:Aa g m w) (h:LS w w') (he:∀ l b,g.box l=some b→w'.heap[b]?=w.heap[b]?):Aa g m w' where
 tab:=fun q hq=>let ⟨⟨vs,t,h1,h2⟩,h3⟩:=hm.tab q hq;⟨⟨vs,t,h.cells _ _ _ _ h1,h2⟩,h3⟩
 box:=fun l b hb=>by rw[h.size];exact hm.box l b hb
 row:=fun l b hb=>by rw[h.size];exact hm.row l b hb
 boxOk:=fun l b c hb hc=>(hm.boxOk l b c hb hc).turn h (he l b hb)
 rowCells:=fun l b hb=>let ⟨arr,t,h1⟩:=hm.rowCells l b hb;⟨arr,t,h.cells _ _ _ _ h1⟩
 rowLive:=hm.rowLive
 rowOk:=fun id b n cs hb hc=>(hm.rowOk id b n cs hb hc).turn h
 boxInj:=hm.boxInj
 rowInj:=hm.rowInj
 apart:=hm.apart
theorem As.turn {g':Gh} {m':Mem} {w1 w2:World} (hs:As g m g' m' w w1) (hm:Aa g m w) (h:LS w1 w2) (he:∀ b,b<w.heap.size→w2.heap[b]?=w1.heap[b]?):As g m g' m' w w2 :=
 { hs with
  os:=h.os.trans hs.os
  tape:=h.tape.trans hs.tape
  output:=h.output.trans hs.output
  size:=by rw[h.size];exact hs.size
  same:=fun b hb h1 h2=>(he b hb).trans (hs.same b hb h1 h2)
  sameRow:=fun id b hid hb arr t ha=>let ⟨arr',h1,h2,h3⟩:=hs.sameRow id b hid hb arr t ha;⟨arr',(he b (hm.row id b hb)).trans h1,h2,h3⟩ }
theorem ZA {fn:Func} {tmps:Array Value} {R:Ending→World→Prop} {B:Nat}:∀ {ds:List Deferred} {w:World},FZ g w B ds →
  (∀ w',LS w w'→(∀ b,(∀ d∈ds,d.target≠.collected b)→w'.heap[b]?=w.heap[b]?)→∃ v,(results fn tmps).run P w'=.ok v w'∧R (.returned v) w') →
  LeavesInM Fence.wide 0 P fn tmps R ds .returning w:=by
 intro ds
 induction ds with
 | nil =>
  intro w hk h
  exact h w ⟨rfl,rfl,rfl,rfl,fun _ _ _ _ h=>h⟩ (fun _ _=>rfl)
 | cons d ds ih =>
  intro w hk h
  obtain⟨hp,hk⟩:=hk
  obtain⟨r,hd,hB,hr,h1,h2⟩:=hk d (List.mem_cons_self ..)
  have hpc:=List.pairwise_cons.1 hp
  have hne:∀ d'∈ds,∀ r',d' = { target:=.collected r',args:=#[] }→r'≠r:=by
   rintro d' hd' r' rfl rfl
   exact hpc.1 _ hd' (by rw[hd])
  refine⟨by simp,.inl ⟨r,w.putObj r (.deferred none),by rw[hd],run_takeDeferred hr,?_⟩⟩
  have hlt:r<w.heap.size:=(Array.getElem?_eq_some_iff.1 hr).1
  have hput:∀ b,b≠r→(w.putObj r (.deferred none)).heap[b]?=w.heap[b]?:=fun b hb=>DW w r b _ hb
  have ht:LS w (w.putObj r (.deferred none)):=⟨rfl,rfl,rfl,Ia w r _,fun b c t f hb=>by
   rw[hput b (by rintro rfl;rw[hr] at hb;cases hb)];exact hb⟩
  refine ih (w:=w.putObj r (.deferred none)) ⟨hpc.2,fun d' hd'=>?_⟩ (fun w' hw' he'=>?_)
  ·obtain⟨r',h3,h4,h5,h6⟩:=hk d' (List.mem_cons_of_mem _ hd')
   exact⟨r',h3,h4,by rw[hput r' (hne d' hd' r' h3)];exact h5,h6⟩
  ·refine h w' ⟨hw'.os.trans ht.os,hw'.tape.trans ht.tape,hw'.output.trans ht.output,hw'.size.trans ht.size,fun b c t f hb=>hw'.cells b c t f (ht.cells b c t f hb)⟩ (fun b hb=>?_)
   rw[he' b (fun d' hd'=>hb d' (List.mem_cons_of_mem _ hd')),hput b ?_]
   rintro rfl
   exact hb d (List.mem_cons_self ..) (by rw[hd])
def Ej (P:Program) (env:List AV) (m:Mem):ResultVar→Option AV
 | .tmp t=>env[t]?
 | .cell a t=>(env[a]?).bind fun p=>match p with
  | .ptr l o=>Fo P m t (.ptr l o)
  | _=>none
def Gc (P:Program) (fn:Func) (env:List AV) (m:Mem):Option AV :=
 (fn.results.toList.mapM (Ej P env m)).map fun vs=>match vs with
  | [v]=>v
  | vs=>.tuple vs
def Ms (tmps:Array Value):ResultVar→Sem Value
 | .tmp t=>pure (tmps.getD t Go.undef)
 | .cell a t=>do loadVar t (← asAddr (tmps.getD a Go.undef))
theorem ACW (fn:Func) (tmps:Array Value):results fn tmps=(do let vs ← fn.results.mapM (Ms tmps);pure (if h:vs.size=1 then vs[0] else .tuple vs)):=by
 unfold results
 congr 1
theorem ABe {env:List AV} {tmps:Array Value} {r:ResultVar} {d:AV} (h:Ej P env m r=some d) (hm:Aa g m w) (he:Bi g w env tmps) :
  ∃ v,(Ms tmps r).run P w=.ok v w∧Rep g w d v:=by
 have hget:∀ (t:Nat) (x:AV),env[t]?=some x→Rep g w x (tmps.getD t Go.undef):=by
  intro t x hx
  have hlt:t<env.length:=(List.getElem?_eq_some_iff.1 hx).1
  have hlt2:t<tmps.size:=by rw[he.1];exact hlt
  rw[Array.getD_eq_getD_getElem?,Array.getElem?_eq_getElem hlt2,Option.getD_some]
  exact he.2 t x _ hx (Array.getElem?_eq_getElem hlt2)
 cases r with
 | tmp t=>exact⟨_,rfl,hget t d h⟩
 | cell a t =>
  simp only[Ej] at h
  obtain⟨p,hp,h⟩:=AE h
  split at h
  ·rename_i l o
   obtain⟨b,hb,e⟩:=(hget a _ hp).ptr_inv
   obtain⟨v,h1,h2⟩:=Yu h hm (hget a _ hp)
   refine⟨v,?_,h2⟩
   rw[e] at h1
   simp only[Ms,e]
   simpa [Instr.loadAt,Instr.sureAddr,asAddr] using h1
  ·cases h
theorem YU {env:List AV} {tmps:Array Value} (hm:Aa g m w) (he:Bi g w env tmps):∀ {rs:List ResultVar} {ds:List AV},rs.mapM (Ej P env m)=some ds →
  ∃ vs:List Value,(rs.mapM (Ms tmps)).run P w=.ok vs w∧vs.length=ds.length∧∀ (j:Nat) (a:AV) (v:Value),ds[j]?=some a→vs[j]?=some v→Rep g w a v:=by
 intro rs
 induction rs with
 | nil=>intro ds h;simp at h;subst h;exact⟨[],by simp,rfl,fun j a v h=>by simp at h⟩
 | cons r rs ih =>
  intro ds h
  rw[List.mapM_cons] at h
  cases hr:Ej P env m r with
  | none=>rw[hr] at h;cases h
  | some d =>
   cases hrs:rs.mapM (Ej P env m) with
   | none=>rw[hr,hrs] at h;cases h
   | some ds' =>
    rw[hr,hrs] at h
    injection h with h;subst h
    obtain⟨v,h1,h2⟩:=ABe hr hm he
    obtain⟨vs,h3,h4,h5⟩:=ih hrs
    refine⟨v :: vs,?_,by simp[h4],fun j a u ha hu=>?_⟩
    ·rw[List.mapM_cons]
     simp only[Sem.run_bind]
     rw[h1]
     simp only[Result.andThen_ok]
     rw[h3]
     rfl
    ·cases j with
     | zero=>simp at ha hu;subst ha hu;exact h2
     | succ j=>simp at ha hu;exact h5 j a u ha hu
theorem AAM {fn:Func} {env:List AV} {tmps:Array Value} {d:AV} (h:Gc P fn env m=some d) (hm:Aa g m w) (he:Bi g w env tmps):∃ v,(results fn tmps).run P w=.ok v w∧Rep g w d v:=by
 unfold Gc at h
 cases hr:fn.results.toList.mapM (Ej P env m) with
 | none=>rw[hr] at h;cases h
 | some ds =>
  rw[hr] at h
  simp only[Option.map_some,Option.some.injEq] at h
  obtain⟨vs,h1,h2,h3⟩:=YU hm he hr
  have hrun:∀ d',(results fn tmps).run P w=.ok d' w ↔ (if h:vs.toArray.size=1 then vs.toArray[0] else .tuple vs.toArray)=d':=by
   intro d'
   rw[ACW,Array.mapM_eq_mapM_toList]
   simp only[Sem.run_bind,Sem.run_map]
   rw[h1]
   simp
  cases ds with
  | nil =>
   have:vs=[]:=List.eq_nil_of_length_eq_zero h2
   subst this
   subst h
   exact⟨.tuple #[],(hrun _).2 (by simp),.tuple _ _ rfl (fun j c v h=>by simp at h)⟩
  | cons a ds =>
   cases ds with
   | nil =>
    obtain⟨v,rfl⟩:=List.length_eq_one_iff.1 h2
    subst h
    exact⟨v,(hrun v).2 (by simp),h3 0 a v rfl rfl⟩
   | cons b ds =>
    subst h
    refine⟨.tuple vs.toArray,(hrun _).2 ?_,.tuple _ _ (by simpa using h2) (fun j c v hc hv=>h3 j c v hc (by simpa using hv))⟩
    have:¬ vs.length=1:=by rw[h2];simp
    simp[this]
theorem AAG {a:AV} {v:Value} (h:Rep g w a v):Rep g w a.stripR1 v:=by
 cases a with
 | agg cs=>exact Jw h
 | _=>exact h
theorem AB5 {a:AV} {v:Value} (h:Rep g w a v):Rep g w a.stripR v:=by
 cases a with
 | agg cs=>exact Jw h
 | tuple vs =>
  generalize hx:AV.tuple vs=x at h
  cases h <;> cases hx
  rename_i us hl hr
  refine .tuple _ _ (by simp[hl]) (fun j c v hc hv=>?_)
  rw[List.getElem?_map] at hc
  cases hy:vs[j]? with
  | none=>rw[hy] at hc;cases hc
  | some y=>rw[hy] at hc;injection hc with hc;subst hc;exact AAG (hr j y v hy hv)
 | _=>exact h
theorem EB.of_body {f : FuncId} {fn : Func} {c : Code} {args env' : List AV} {m' : Mem} {e : Exit} {r : AV} (hf : P.funcs[f]? = some fn) (hb : fn.body = some c) (hname : (fn.name == "runtime.NumGoroutine") = false)
  (h:Bu P none c (args++List.replicate (fn.ntmps - args.length) .undef) m e env' m') (he:e=.ret∨e=.normal) (hr:Gc P fn env' m'=some r):EB P f args m r.stripR m':=by
 refine⟨⟨fn,hf,hname,by rw[hb];rfl⟩,h.1,fun g w vs hfr hm ha=>?_⟩
 refine callsIn_of_wp_marks hf hb trivial ?_
 have hreps:Bi g w (args++List.replicate (fn.ntmps - args.length) .undef) (vs++Array.replicate (fn.ntmps - vs.size) Go.undef):=by
  refine JH (cs:=[]) (ws:=#[]) ha ⟨by simp[ha.1],fun j a v hja hjv=>?_⟩
  rw[List.getElem?_replicate] at hja
  rw[Array.getElem?_replicate] at hjv
  split at hja
  ·split at hjv
   ·injection hja with hja;injection hjv with hjv;subst hja hjv
    exact .tuple [] #[] rfl (fun j c v h=>by simp at h)
   ·cases hjv
  ·cases hja
 have:=h.2 none g w { tmps:=vs++Array.replicate (fn.ntmps - vs.size) Go.undef,defers:=[] } .none hfr hm hreps
 refine wpIn_mono this ?_
 rintro e1 a1 w1 ⟨rfl,g1,ds,hd,hk,hs,hm1,he1⟩
 have hds:a1.defers=ds:=by simpa using hd
 have key:LeavesInM Fence.wide 0 P fn a1.tmps (fun e w'=>∃ v g',e=Ending.returned v∧As g m g' m' w w'∧Aa g' m' w'∧Rep g' w' r.stripR v) a1.defers .returning w1:=by
  rw[hds]
  refine ZA hk (fun w2 ht hsame=>?_)
  have hnm:∀ b,(∀ d∈ds,∀ r,d = { target:=.collected r,args:=#[] }→r≠b)→w2.heap[b]?=w1.heap[b]?:=by
   intro b hb'
   refine hsame b (fun d hd' e=>?_)
   obtain⟨r,h1,_⟩:=hk.2 d hd'
   rw[h1] at e
   injection e with e
   exact hb' d hd' r h1 e
  have hm2:Aa g1 m' w2:=hm1.turn ht (fun l b hlb=>hnm b (fun d hd' r h1 e=>by
   obtain⟨r',h2,_,_,h3,_⟩:=hk.2 d hd'
   rw[h1] at h2
   injection h2 with h2;injection h2 with h2
   subst e;subst h2
   exact h3 l hlb))
  obtain⟨v,h1,h2⟩:=AAM hr hm2 (he1.turn ht)
  refine⟨v,h1,v,g1,rfl,hs.turn hm ht (fun b hb'=>hnm b (fun d hd' r h3 e=>?_)),hm2,AB5 h2⟩
  obtain⟨r',h4,h5,_⟩:=hk.2 d hd'
  rw[h3] at h4
  injection h4 with h4;injection h4 with h4
  omega
 rcases he with rfl | rfl
 ·exact key
 ·exact key
end
end
section
def Ext (m m':Mem):Prop:=(∃ x,m'.boxes=m.boxes++x)∧(∃ y,m'.rows=m.rows++y)∧m'.mode=m.mode
theorem Ext.refl (m:Mem):Ext m m:=⟨⟨[],by simp⟩,⟨[],by simp⟩,rfl⟩
theorem Ext.trans {m m' m'':Mem} (h:Ext m m') (k:Ext m' m''):Ext m m'':=by
 obtain⟨⟨x,hx⟩,⟨y,hy⟩,h⟩:=h
 obtain⟨⟨x',hx'⟩,⟨y',hy'⟩,k⟩:=k
 exact⟨⟨x++x',by rw[hx',hx,List.append_assoc]⟩,⟨y++y',by rw[hy',hy,List.append_assoc]⟩,k.trans h⟩
theorem Ext.push (m:Mem) (c:Ck):Ext m (m.push c):=⟨⟨[c],rfl⟩,⟨[],by simp[Mem.push]⟩,rfl⟩
theorem Ext.mono {m m':Mem} (h:Ext m m'):Bx m m':=by
 obtain⟨⟨x,hx⟩,⟨y,hy⟩,_⟩:=h
 exact⟨by rw[hx];simp,by rw[hy];simp⟩
theorem Ext.modeEq {m m':Mem} (h:Ext m m'):m'.mode=m.mode:=h.2.2
theorem Ext.box {m m':Mem} (h:Ext m m') {l:Nat} (hl:l<m.boxes.length):m'.boxes[l]?=m.boxes[l]?:=by
 obtain⟨⟨x,hx⟩,_⟩:=h
 rw[hx,List.getElem?_append_left hl]
theorem Ext.get {m m':Mem} (h:Ext m m') {l:Nat} {c:Ck} (hl:m.boxes[l]?=some c):m'.boxes[l]?=some c:=by
 rw[h.box (List.getElem?_eq_some_iff.1 hl).1];exact hl
theorem Ext.row {m m':Mem} (h:Ext m m') {l:Nat} (hl:l<m.rows.length):m'.rows[l]?=m.rows[l]?:=by
 obtain⟨_,⟨y,hy⟩,_⟩:=h
 rw[hy,List.getElem?_append_left hl]
theorem Ext.getRow {m m':Mem} (h:Ext m m') {l:Nat} {c:Option (Nat × List AV)} (hl:m.rows[l]?=some c):m'.rows[l]?=some c:=by
 rw[h.row (List.getElem?_eq_some_iff.1 hl).1];exact hl
def Bh:Op→Bool
 | .move _ | .assign _ | .pick .. | .build .. | .nilCheck _ | .binOp .. | .unOp .. | .convert .. | .makeFunc .. | .slice .. | .fieldAddr .. | .field .. | .indexAddr .. | .index .. | .extract ..=>true
 | .call { callee:=.builtin .len,.. }=>true
 | .call { callee:=.builtin .min,.. }=>true
 | .call { callee:=.builtin .max,.. }=>true
 | _=>false
def Kw (acc:List Nat) (o:Oper):Nat:=o.after.toList.foldl (fun s e=>if Region.binds .any e then s|||2 ^ e.on|||acc.getD e.on 0 else s) 0
def FW (acc:List Nat):List Oper→List Nat
 | []=>acc
 | o :: l=>FW (acc++[Kw acc o]) l
def RM:Nat→List Oper→Bool
 | _,[]=>true
 | k,o :: l=>o.after.toList.all (fun e=>!Region.binds .any e || decide (e.on<k))&&RM (k+1) l
def KX (ops:Array Oper) (x y:Oper):Bool :=
  (match x.dst with
   | some d=>(y.looksAt ops).contains d || y.dst == some d
   | none=>false) ||
  (match y.dst with
   | some d=>(x.looksAt ops).contains d
   | none=>false)
def Um (ops:Array Oper) (p:Nat) (sw:Option (Nat × Nat)) (late:List Nat) (j:Nat) (o:Oper) (bits:Nat):Nat→List Oper→Bool
 | _,[]=>true
 | i,x :: l=>(decide (j≤i) || ((!KX ops x o || bits.testBit i)&&(decide (j<p) || Bh x.op || Bh o.op || bits.testBit i || sw == some (i,j) || late.contains i)))&&Um ops p sw late j o bits (i+1) l
def UZ (ops:Array Oper) (p:Nat) (sw:Option (Nat × Nat)) (late:List Nat):Nat→List Oper→List Nat→Bool
 | _,[],_=>true
 | j,o :: l,b :: bs=>Um ops p sw late j o b 0 ops.toList&&UZ ops p sw late (j+1) l bs
 | _,_,[]=>false
def AKy (ops:Array Oper) (p:Nat) (bs:List Nat):Option (Nat × Nat) :=
 (List.range ops.size).findSome? fun j=>match ops[j]?,bs[j]? with
  | some o,some b=>if p≤j&&!Bh o.op then(List.range j).findSome? (fun i=>match ops[i]? with
   | some x=>if p≤i&&!Bh x.op&&!b.testBit i then some (i,j) else none
   | none=>none) else none
  | _,_=>none
def YP (ops:Array Oper) (p:Nat):Option (Nat × Nat):=AKy ops p (FW [] ops.toList)
def AKl (ops:Array Oper) (p:Nat):Option (Nat × Nat)→Bool
 | none=>true
 | some (a,b)=>decide (a<b)&&decide (p≤a)&&(List.range b).all fun k=>decide (k≤a) || match ops[k]? with
  | some o=>Bh o.op
  | none=>false
def ADg (p:Nat) (sw:Option (Nat × Nat)) (late:List Nat):Bool:=late.isEmpty || (sw.isNone&&late.all fun i=>decide (i<p))
def FC (ops:Array Oper) (p:Nat) (sw:Option (Nat × Nat)) (late:List Nat):Bool:=RM 0 ops.toList&&UZ ops p sw late 0 ops.toList (FW [] ops.toList)&&AKl ops p sw&&ADg p sw late
def ACw (ops:Array Oper) (p:Nat) (sw:Option (Nat × Nat)):Bool:=FC ops p sw []
theorem QZ:∀ (l:List Oper) (acc:List Nat),(FW acc l).take acc.length=acc:=by
 intro l
 induction l with
 | nil=>intro acc;simp[FW]
 | cons o l ih =>
  intro acc
  simp only[FW]
  have:=ih (acc++[Kw acc o])
  have h2:=congrArg (List.take acc.length) this
  rw[List.take_take] at h2
  simpa using h2
theorem AAn:∀ (l:List Oper) (acc:List Nat) (i:Nat) (o:Oper),l[i]?=some o→∃ acc',(FW acc l)[acc.length+i]?=some (Kw acc' o)∧acc'=(FW acc l).take (acc.length+i):=by
 intro l
 induction l with
 | nil=>intro acc i o h;simp at h
 | cons x l ih =>
  intro acc i o h
  cases i with
  | zero =>
   simp at h;subst h
   refine⟨acc,?_,?_⟩
   ·have h1:=QZ l (acc++[Kw acc x])
    simp only[FW,Nat.add_zero]
    have h2:(acc++[Kw acc x])[acc.length]?=some (Kw acc x):=by simp
    rw[← h1,List.getElem?_take_of_lt (by simp)] at h2
    rw[h2]
   ·have:=QZ (x :: l) acc
    rw[Nat.add_zero,this]
  | succ i =>
   simp at h
   obtain⟨acc',h1,h2⟩:=ih (acc++[Kw acc x]) i o h
   simp only[List.length_append,List.length_cons,List.length_nil] at h1 h2
   refine⟨acc',?_,?_⟩
   ·simp only[FW];rw[← h1];congr 1;omega
   ·rw[h2];simp only[FW];congr 1;omega
theorem ADw (acc:List Nat) (o:Oper) (i:Nat) (h:(Kw acc o).testBit i=true):∃ e∈o.after,Region.binds .any e=true∧(e.on=i∨(acc.getD e.on 0).testBit i=true):=by
 have key:∀ (l:List Edge) (s:Nat),(l.foldl (fun s e=>if Region.binds .any e then s|||2 ^ e.on|||acc.getD e.on 0 else s) s).testBit i=true→s.testBit i=true∨∃ e∈l,Region.binds .any e=true∧(e.on=i∨(acc.getD e.on 0).testBit i=true):=by
  intro l
  induction l with
  | nil=>intro s h;exact .inl h
  | cons e l ih =>
   intro s h
   simp only[List.foldl_cons] at h
   rcases ih _ h with h1 | ⟨e',h1,h2⟩
   ·split at h1
    ·rename_i hb
     simp only[Nat.testBit_or,Bool.or_eq_true,Nat.testBit_two_pow,decide_eq_true_eq] at h1
     rcases h1 with (h1 | h1) | h1
     ·exact .inl h1
     ·exact .inr ⟨e,List.mem_cons_self ..,hb,.inl h1⟩
     ·exact .inr ⟨e,List.mem_cons_self ..,hb,.inr h1⟩
    ·exact .inl h1
   ·exact .inr ⟨e',List.mem_cons_of_mem _ h1,h2⟩
 rcases key o.after.toList 0 h with h1 | ⟨e,h1,h2⟩
 ·simp at h1
 ·exact⟨e,by simpa using h1,h2⟩
def Ux (ops:Array Oper) (i j:Nat):Prop:=((FW [] ops.toList).getD j 0).testBit i=true
theorem KE {ops:Array Oper} {S:Nat→Prop} (hS:∀ i o,S i→ops[i]?=some o→∀ e∈o.after,Region.binds .any e=true→S e.on):∀ (j:Nat) (o:Oper),ops[j]?=some o→(∀ e∈o.after,Region.binds .any e=true→S e.on)→∀ i,Ux ops i j→S i:=by
 intro j
 induction j using Nat.strongRecOn with
 | _ j ih =>
  intro o ho he i hi
  obtain⟨acc',h1,h2⟩:=AAn ops.toList [] j o (by simpa using ho)
  simp only[List.length_nil,Nat.zero_add] at h1 h2
  unfold Ux at hi
  rw[List.getD_eq_getElem?_getD,h1,Option.getD_some] at hi
  obtain⟨e,hem,hb,h3⟩:=ADw acc' o i hi
  have hse:=he e hem hb
  rcases h3 with rfl | h3
  ·exact hse
  ·have hlt:e.on<j:=by
    rcases Nat.lt_or_ge e.on j with h | h
    ·exact h
    ·rw[h2,List.getD_eq_getElem?_getD,List.getElem?_eq_none (by simp;omega)] at h3;simp at h3
   have h4:acc'.getD e.on 0=(FW [] ops.toList).getD e.on 0:=by
    rw[h2,List.getD_eq_getElem?_getD,List.getD_eq_getElem?_getD,List.getElem?_take_of_lt hlt]
   rw[h4] at h3
   have hlen:e.on<ops.size:=by
    have:=(Array.getElem?_eq_some_iff.1 ho).1;omega
   exact ih e.on hlt ops[e.on] (Array.getElem?_eq_getElem hlen) (hS e.on _ hse (Array.getElem?_eq_getElem hlen)) i h3
theorem ZM:∀ (l:List Oper) (k:Nat),RM k l=true→∀ i o,l[i]?=some o→∀ e∈o.after,Region.binds .any e=true→e.on<k+i:=by
 intro l
 induction l with
 | nil=>intro k _ i o h;simp at h
 | cons x l ih =>
  intro k h i o hi e he hb
  simp only[RM,Bool.and_eq_true] at h
  cases i with
  | zero =>
   simp at hi;subst hi
   have:=List.all_eq_true.1 h.1 e (by simpa using he)
   simp[hb] at this
   omega
  | succ i=>simp at hi;have:=ih (k+1) h.2 i o hi e he hb;omega
theorem ABi {ops:Array Oper} {p j:Nat} {sw:Option (Nat × Nat)} {late:List Nat} {o:Oper} {bits:Nat}:∀ (l:List Oper) (k:Nat),Um ops p sw late j o bits k l=true→∀ i x,l[i]?=some x→k+i<j→(KX ops x o=true→bits.testBit (k+i)=true)∧(p≤j→Bh x.op=false→Bh o.op=false→bits.testBit (k+i)=true∨sw=some (k+i,j)∨k+i∈late):=by
 intro l
 induction l with
 | nil=>intro k _ i x h;simp at h
 | cons y l ih =>
  intro k h i x hi hlt
  simp only[Um,Bool.and_eq_true] at h
  cases i with
  | zero =>
   simp at hi;subst hi
   have h1:=h.1
   simp only[Nat.add_zero] at hlt ⊢
   simp only[Bool.or_eq_true,Bool.and_eq_true,decide_eq_true_eq,Bool.not_eq_true'] at h1
   rcases h1 with h1 | ⟨h1,h2⟩
   ·omega
   ·refine⟨fun ht=>?_,fun hp hx ho=>?_⟩
    ·rcases h1 with h1 | h1
     ·rw[ht] at h1;cases h1
     ·exact h1
    ·rcases h2 with ((((h2 | h2) | h2) | h2) | h2) | h2
     ·omega
     ·rw[hx] at h2;cases h2
     ·rw[ho] at h2;cases h2
     ·exact .inl h2
     ·exact .inr (.inl (by simpa using h2))
     ·exact .inr (.inr (by simpa using h2))
  | succ i =>
   simp at hi
   have:=ih (k+1) h.2 i x hi (by omega)
   rw[show k+(i+1)=k+1+i from by omega];exact this
theorem ACd {ops:Array Oper} {p:Nat} {sw:Option (Nat × Nat)} {late:List Nat}:∀ (l:List Oper) (bs:List Nat) (k:Nat),UZ ops p sw late k l bs=true→∀ j o,l[j]?=some o→∃ b,bs[j]?=some b∧Um ops p sw late (k+j) o b 0 ops.toList=true:=by
 intro l
 induction l with
 | nil=>intro bs k _ j o h;simp at h
 | cons x l ih =>
  intro bs k h j o hj
  cases bs with
  | nil=>simp[UZ] at h
  | cons b bs =>
   simp only[UZ,Bool.and_eq_true] at h
   cases j with
   | zero=>simp at hj;subst hj;exact⟨b,rfl,h.1⟩
   | succ j =>
    simp at hj
    obtain⟨b',h1,h2⟩:=ih bs (k+1) h.2 j o hj
    exact⟨b',by simpa using h1,by rw[show k+(j+1)=k+1+j from by omega];exact h2⟩
theorem HD {ops:Array Oper} {p:Nat} {sw:Option (Nat × Nat)} {late:List Nat} (h:FC ops p sw late=true):(∀ i o,ops[i]?=some o→∀ e∈o.after,Region.binds .any e=true→e.on<i) ∧
  ∀ i j x o,ops[i]?=some x→ops[j]?=some o→i<j→(KX ops x o=true→Ux ops i j)∧(p≤j→Bh x.op=false→Bh o.op=false→Ux ops i j∨sw=some (i,j)∨i∈late):=by
 simp only[FC,Bool.and_eq_true] at h
 replace h:=h.1
 refine⟨fun i o ho e he hb=>?_,fun i j x o hx ho hij=>?_⟩
 ·have:=ZM ops.toList 0 h.1.1 i o (by simpa using ho) e he hb;omega
 ·obtain⟨b,h1,h2⟩:=ACd ops.toList _ 0 h.1.2 j o (by simpa using ho)
  have:=ABi ops.toList 0 h2 i x (by simpa using hx) (by omega)
  simp only[Nat.zero_add] at this
  unfold Ux
  rw[List.getD_eq_getElem?_getD,h1,Option.getD_some]
  exact this
theorem JP {ops:Array Oper} {p:Nat} {sw:Option (Nat × Nat)} {late:List Nat} (h:FC ops p sw late=true):(∀ i,i∈late→i<p)∧(∀ q,sw=some q→late=[]):=by
 simp only[FC,Bool.and_eq_true] at h
 have h1:=h.2
 simp only[ADg,Bool.or_eq_true,Bool.and_eq_true,List.isEmpty_iff,List.all_eq_true,decide_eq_true_eq] at h1
 rcases h1 with h1 | ⟨h1,h2⟩
 ·subst h1;exact⟨fun i hi=>by(cases hi),fun _ _=>rfl⟩
 ·exact⟨h2,fun q hq=>by(subst hq;cases h1)⟩
theorem NH {ops:Array Oper} {p a b:Nat} {late:List Nat} (h:FC ops p (some (a,b)) late=true):a<b∧p≤a∧∀ k o,a<k→k<b→ops[k]?=some o→Bh o.op=true:=by
 simp only[FC,AKl,Bool.and_eq_true,decide_eq_true_eq] at h
 obtain⟨⟨_,⟨h1,h2⟩,h3⟩,_⟩:=h
 refine⟨h1,h2,fun k o hk1 hk2 ho=>?_⟩
 have:=List.all_eq_true.1 h3 k (by simpa using hk2)
 simp only[Bool.or_eq_true,decide_eq_true_eq,ho] at this
 rcases this with h4 | h4
 ·omega
 ·exact h4
end
section
def AF3 (P:Program) (o:Oper) (env:List AV) (m m1:Mem):Prop:=∃ t A x id off y,o.op=.store t A x∧BF env A=some (.vptr id off)∧BF env x=some y∧FL P m t (.vptr id off) y=some m1
def AGy (P:Program) (o:Oper) (env:List AV) (m m1:Mem):Prop:=∃ t A x l off y,o.op=.store t A x∧BF env A=some (.ptr l off)∧BF env x=some y∧FL P m t (.ptr l off) y=some m1
def Gw (P:Program) (sw:Option (Nat × Nat)) (k:Nat) (o:Oper) (env:List AV) (m:Mem) (d:AV) (m1:Mem):Prop :=
 ∀ a b,sw=some (a,b)→(k=a→d=.undef∧AF3 P o env m m1)∧(k=b→d=.undef∧AGy P o env m m1)
inductive KT (P:Program) (ops:Array Oper) (p:Nat) (sw:Option (Nat × Nat)):Nat→List Oper→List AV→Mem→List AV→Mem→Prop
 | nil (k:Nat) (env:List AV) (m:Mem):KT P ops p sw k [] env m env m
 | pure {k:Nat} {o:Oper} {l:List Oper} {env env':List AV} {m m1 m':Mem} {d:AV} (hw:DN ops env o=some true) (hp:Bh o.op=true) (h:aop P o.op env m=some (d,m1)) (hk:KT P ops p sw (k+1) l (DS env o.dst d) m1 env' m'):KT P ops p sw k (o :: l) env m env' m'
 | loud {k:Nat} {o:Oper} {l:List Oper} {env env':List AV} {m m1 m':Mem} {d:AV} (hw:DN ops env o=some true) (hp:Bh o.op=false) (h:AOp P o env m d m1) (he:k<p→Ext m m1) (hs:Gw P sw k o env m d m1) (hk:KT P ops p sw (k+1) l (DS env o.dst d) m1 env' m'):KT P ops p sw k (o :: l) env m env' m'
 | skip {k:Nat} {o:Oper} {l:List Oper} {env env':List AV} {m m':Mem} (hw:DN ops env o=some false) (hk:KT P ops p sw (k+1) l (DS env o.dst .undef) m env' m'):KT P ops p sw k (o :: l) env m env' m'
theorem Lb {P:Program} {op:Op} {env:List AV} {m m1:Mem} {d:AV} (hp:Bh op=true) (h:aop P op env m=some (d,m1)):m1=m∧∀ m2,aop P op env m2=some (d,m2):=by
 have hmap:∀ {o:Option AV},o.map (·,m)=some (d,m1)→m1=m∧∀ m2:Mem,o.map (·,m2)=some (d,m2):=by
  intro o ho
  obtain⟨h1,h2⟩:=Dd ho
  exact⟨h2,fun m2=>by rw[h1];rfl⟩
 have hbind:∀ {α:Type} {o:Option α} {f:α→Mem→Option (AV × Mem)},(∀ a,f a m=some (d,m1)→m1=m∧∀ m2,f a m2=some (d,m2))→o.bind (f · m)=some (d,m1)→m1=m∧∀ m2,o.bind (f · m2)=some (d,m2):=by
  intro α o f hf ho
  obtain⟨a,ha,h2⟩:=AE ho
  obtain⟨h3,h4⟩:=hf a h2
  exact⟨h3,fun m2=>by rw[ha];exact h4 m2⟩
 cases op with
 | move x=>exact hmap h
 | assign x=>exact hmap h
 | pick c a b =>
  simp only[aop] at h ⊢
  split at h
  ·exact hmap h
  ·cases h
 | build t ps=>exact hbind (f:=fun l m=>(HO P t l).map (·,m)) (fun a=>hmap) h
 | nilCheck x =>
  refine hbind (f:=fun (v:AV) (m:Mem)=>match v with
   | .ptr l o=>some (.ptr l o,m)
   | .eptr e o=>some (.eptr e o,m)
   | .vptr e o=>some (.vptr e o,m)
   | .func f a b=>some (.func f a b,m)
   | _=>none) (fun a ha=>?_) h
  cases a <;> first | (cases ha;done) | (injection ha with ha;injection ha with h1 h2;subst h1 h2;exact⟨rfl,fun _=>rfl⟩)
 | binOp op t x y yt=>exact hbind (f:=fun a m=>(BF env y).bind fun b=>(Bq P op t a b).map (·,m)) (fun a=>hbind (f:=fun b m=>(Bq P op t a b).map (·,m)) (fun b=>hmap)) h
 | unOp op t x=>exact hbind (f:=fun a m=>(aun op a).map (·,m)) (fun a=>hmap) h
 | convert s t x =>
  refine hbind (f:=fun (a:AV) (m:Mem)=>match a,P.underlying s,P.underlying t with
   | .atom (.int _ n),some (.int _),some (.int k)=>some (.atom (.int k (k.wrap n)),m)
   | _,_,_=>none) (fun a ha=>?_) h
  split at ha
  ·injection ha with ha;injection ha with h1 h2;subst h1 h2;exact⟨rfl,fun _=>rfl⟩
  ·cases ha
 | makeFunc fn first cap =>
  cases fn with
  | func f =>
   refine hbind (f:=fun (a:List AV) (m:Mem)=>(EQ env cap.toList).map fun b=>(AV.func f (a.map AV.strip) b,m)) (fun a ha=>?_) h
   cases hb:EQ env cap.toList with
   | none=>rw[hb] at ha;cases ha
   | some bs=>rw[hb] at ha;injection ha with ha;injection ha with h1 h2;subst h1 h2;exact⟨rfl,fun _=>rfl⟩
  | _=>cases h
 | slice t x lo hi mx =>
  exact hbind (f:=fun v m=>(Jz env lo).bind fun l=>(Jz env hi).bind fun h=>(Jz env mx).bind fun k=>(GZ P t v l h k).map (·,m)) (fun v=>hbind (f:=fun l m=>(Jz env hi).bind fun h=>(Jz env mx).bind fun k=>(GZ P t v l h k).map (·,m)) (fun l=>hbind (f:=fun h m=>(Jz env mx).bind fun k=>(GZ P t v l h k).map (·,m)) (fun h=>hbind (f:=fun k m=>(GZ P t v l h k).map (·,m)) (fun k=>hmap)))) h
 | fieldAddr t x f=>exact hbind (f:=fun v m=>(GH P t v f).map (·,m)) (fun a=>hmap) h
 | field t x f=>exact hbind (f:=fun v m=>(MO P t v f).map (·,m)) (fun a=>hmap) h
 | indexAddr t x i=>exact hbind (f:=fun a m=>(BF env i).bind fun b=>(EM P t a b).map (·,m)) (fun a=>hbind (f:=fun b m=>(EM P t a b).map (·,m)) (fun b=>hmap)) h
 | index t x i=>exact hbind (f:=fun a m=>(BF env i).bind fun b=>(LD P t a b).map (·,m)) (fun a=>hbind (f:=fun b m=>(LD P t a b).map (·,m)) (fun b=>hmap)) h
 | extract t i =>
  refine hbind (f:=fun (v:AV) (m:Mem)=>match v with
   | .tuple vs=>(vs[i]?).map (·,m)
   | _=>none) (fun a ha=>?_) h
  cases a <;> first | (cases ha;done) | exact hmap ha
 | call c =>
  obtain⟨callee,args,ts⟩:=c
  cases callee with
  | builtin b =>
   refine hbind (f:=fun l m=>FT P b ts.toList l m) (fun l hl=>?_) h
   cases b <;> first | (cases hp;done) | skip
   ·have hl2:(match ts.toList,l with | t :: _,[x]=>(MS P t x).map (·,m) | _,_=>none)=some (d,m1):=by
     unfold FT at hl
     split at hl <;> simp_all
    split at hl2
    ·rename_i h1
     obtain⟨h2,h3⟩:=hmap hl2
     refine⟨h2,fun m2=>?_⟩
     have:=h3 m2
     simpa [FT,h1] using this
    ·cases hl2
   ·exact hmap hl
   ·exact hmap hl
  | _=>cases hp
 | _=>cases hp
structure EA (P:Program) (ops:Array Oper) (p:Nat) (sw:Option (Nat × Nat)) (env:Nat→List AV) (mem:Nat→Mem) (val:Nat→AV) (done:Nat→Bool):Prop where
 wanted:∀ k o,ops[k]?=some o→DN ops (env k) o=some (done k)
 envs:∀ k o,ops[k]?=some o→env (k+1)=DS (env k) o.dst (val k)
 skip:∀ k o,ops[k]?=some o→done k=false→val k=.undef∧mem (k+1)=mem k
 pure:∀ k o,ops[k]?=some o→done k=true→Bh o.op=true→aop P o.op (env k) (mem k)=some (val k,mem (k+1))
 loud:∀ k o,ops[k]?=some o→done k=true→Bh o.op=false→AOp P o (env k) (mem k) (val k) (mem (k+1))∧(k<p→Ext (mem k) (mem (k+1)))∧Gw P sw k o (env k) (mem k) (val k) (mem (k+1))
theorem KT.course {P:Program} {ops:Array Oper} {p k:Nat} {sw:Option (Nat × Nat)} {l:List Oper} {env0 env':List AV} {m0 m':Mem} (h:KT P ops p sw k l env0 m0 env' m'):∃ (env:Nat→List AV) (mem:Nat→Mem) (val:Nat→AV) (done:Nat→Bool),
  env k=env0∧mem k=m0∧env (k+l.length)=env'∧mem (k+l.length)=m'∧∀ i o,l[i]?=some o →
   DN ops (env (k+i)) o=some (done (k+i))∧env (k+i+1)=DS (env (k+i)) o.dst (val (k+i))∧(done (k+i)=false→val (k+i)=.undef∧mem (k+i+1)=mem (k+i)) ∧
   (done (k+i)=true→Bh o.op=true→aop P o.op (env (k+i)) (mem (k+i))=some (val (k+i),mem (k+i+1))) ∧
   (done (k+i)=true→Bh o.op=false→AOp P o (env (k+i)) (mem (k+i)) (val (k+i)) (mem (k+i+1))∧(k+i<p→Ext (mem (k+i)) (mem (k+i+1)))∧Gw P sw (k+i) o (env (k+i)) (mem (k+i)) (val (k+i)) (mem (k+i+1))):=by
 have step:∀ (k:Nat) (o:Oper) (l:List Oper) (env0:List AV) (m0 m1:Mem) (env':List AV) (m':Mem) (d:AV) (b:Bool),
   (∃ (env:Nat→List AV) (mem:Nat→Mem) (val:Nat→AV) (done:Nat→Bool),env (k+1)=DS env0 o.dst d∧mem (k+1)=m1∧env (k+1+l.length)=env'∧mem (k+1+l.length)=m'∧∀ i o,l[i]?=some o →
    DN ops (env (k+1+i)) o=some (done (k+1+i))∧env (k+1+i+1)=DS (env (k+1+i)) o.dst (val (k+1+i))∧(done (k+1+i)=false→val (k+1+i)=.undef∧mem (k+1+i+1)=mem (k+1+i)) ∧
    (done (k+1+i)=true→Bh o.op=true→aop P o.op (env (k+1+i)) (mem (k+1+i))=some (val (k+1+i),mem (k+1+i+1))) ∧
    (done (k+1+i)=true→Bh o.op=false→AOp P o (env (k+1+i)) (mem (k+1+i)) (val (k+1+i)) (mem (k+1+i+1))∧(k+1+i<p→Ext (mem (k+1+i)) (mem (k+1+i+1)))∧Gw P sw (k+1+i) o (env (k+1+i)) (mem (k+1+i)) (val (k+1+i)) (mem (k+1+i+1)))) →
   DN ops env0 o=some b→(b=false→d=.undef∧m1=m0)→(b=true→Bh o.op=true→aop P o.op env0 m0=some (d,m1))→(b=true→Bh o.op=false→AOp P o env0 m0 d m1∧(k<p→Ext m0 m1)∧Gw P sw k o env0 m0 d m1) →
   ∃ (env:Nat→List AV) (mem:Nat→Mem) (val:Nat→AV) (done:Nat→Bool),env k=env0∧mem k=m0∧env (k+(o :: l).length)=env'∧mem (k+(o :: l).length)=m'∧∀ i o',(o :: l)[i]?=some o' →
    DN ops (env (k+i)) o'=some (done (k+i))∧env (k+i+1)=DS (env (k+i)) o'.dst (val (k+i))∧(done (k+i)=false→val (k+i)=.undef∧mem (k+i+1)=mem (k+i)) ∧
    (done (k+i)=true→Bh o'.op=true→aop P o'.op (env (k+i)) (mem (k+i))=some (val (k+i),mem (k+i+1))) ∧
    (done (k+i)=true→Bh o'.op=false→AOp P o' (env (k+i)) (mem (k+i)) (val (k+i)) (mem (k+i+1))∧(k+i<p→Ext (mem (k+i)) (mem (k+i+1)))∧Gw P sw (k+i) o' (env (k+i)) (mem (k+i)) (val (k+i)) (mem (k+i+1))):=by
  rintro k o l env0 m0 m1 env' m' d b ⟨env,mem,val,done,h1,h2,h3,h4,h5⟩ c1 c2 c3 c4
  refine⟨fun j=>if j=k then env0 else env j,fun j=>if j=k then m0 else mem j,fun j=>if j=k then d else val j,fun j=>if j=k then b else done j,by simp,by simp,?_,?_,?_⟩
  ·have:k+(o :: l).length≠k:=by simp
   simp only[this,if_false]
   rw[← h3];congr 1;simp;omega
  ·have:k+(o :: l).length≠k:=by simp
   simp only[this,if_false]
   rw[← h4];congr 1;simp;omega
  ·intro i o' ho'
   cases i with
   | zero =>
    simp at ho';subst ho'
    simp only[Nat.add_zero,if_true]
    have e:k+1≠k:=by omega
    simp only[e,if_false,h1,h2]
    exact⟨c1,trivial,c2,c3,c4⟩
   | succ i =>
    simp at ho'
    have e1:k+(i+1)≠k:=by omega
    have e2:k+(i+1)+1≠k:=by omega
    simp only[e1,e2,if_false]
    have:=h5 i o' ho'
    rw[show k+(i+1)=k+1+i from by omega]
    exact this
 induction h with
 | nil k env m=>exact⟨fun _=>env,fun _=>m,fun _=>.undef,fun _=>false,rfl,rfl,rfl,rfl,fun i o h=>by simp at h⟩
 | pure hw hp h hk ih=>exact step _ _ _ _ _ _ _ _ _ true ih hw (fun h=>by cases h) (fun _ _=>h) (fun _ hp'=>by rw[hp] at hp';cases hp')
 | loud hw hp h he hs hk ih=>exact step _ _ _ _ _ _ _ _ _ true ih hw (fun h=>by cases h) (fun _ hp'=>by rw[hp] at hp';cases hp') (fun _ _=>⟨h,he,hs⟩)
 | skip hw hk ih=>exact step _ _ _ _ _ _ _ _ _ false ih hw (fun _=>⟨rfl,rfl⟩) (fun h=>by cases h) (fun h=>by cases h)
section
variable {g g' g0:Gh} {m m0 m1 M:Mem} {w w0 w1:World} {P:Program}
theorem As.within (h:As g0 m0 g M w0 w) (k:As g m g' m1 w w1) (hm:Aa g0 m0 w0) (h1:Bx m0 m) (h2:Bx m1 M):As g0 m0 g' M w0 w1 where
 os:=k.os.trans h.os
 tape:=k.tape.trans h.tape
 output:=k.output.trans h.output
 size:=Nat.le_trans h.size k.size
 boxes:=h.boxes
 rows:=h.rows
 freshBox:=h.freshBox
 freshRow:=h.freshRow
 boxOld:=fun l hl=>by
  have a:=h1.1;have b:=h2.1
  rcases hl with hl | hl
  ·rw[k.boxOld l (.inl (by omega)),h.boxOld l (.inl hl)]
  ·rw[k.boxOld l (.inr (by omega)),h.boxOld l (.inr hl)]
 boxNew:=fun l b h1 h2=>by
  cases hg:g.box l with
  | none=>have:=k.boxNew l b h1 hg;have:=h.size;omega
  | some c=>have e:=k.boxUp hg;rw[h1] at e;cases e;exact h.boxNew l b hg h2
 rowOut:=fun l hl=>by
  have b:=h2.2
  obtain⟨x,y⟩:=k.rowOut l (by omega)
  obtain⟨u,v⟩:=h.rowOut l hl
  exact⟨x.trans u,y.trans v⟩
 rowIn:=fun l b hl hb=>by
  have a:=h1.2
  obtain⟨x,y⟩:=k.rowIn l b (by omega) hb
  obtain⟨u,v⟩:=h.rowIn l b hl x
  exact⟨u,Nat.le_trans v y⟩
 rowStay:=fun l hl=>(k.rowStay l (Nat.lt_of_lt_of_le hl h1.2)).trans (h.rowStay l hl)
 rowNew:=fun l b a1 a2 hb=>by
  have fin:∀ l1,g.row l1=some (some b)→l1<M.rows.length→w0.heap.size≤b∨∃ l0,l0<m0.rows.length∧g0.row l0=some (some b)∧g0.hw l0≤g.hw l1:=by
   intro l1 hl1 hlt
   rcases Nat.lt_or_ge l1 m0.rows.length with h3 | h3
   ·obtain⟨x,y⟩:=h.rowIn l1 b h3 hl1
    exact .inr ⟨l1,h3,x,y⟩
   ·exact h.rowNew l1 b h3 hlt hl1
  rcases Nat.lt_or_ge l m.rows.length with h3 | h3
  ·obtain⟨x,y⟩:=k.rowIn l b h3 hb
   rcases fin l x a2 with h4 | ⟨l0,h4,h5,h6⟩
   ·exact .inl h4
   ·exact .inr ⟨l0,h4,h5,Nat.le_trans h6 y⟩
  ·rcases Nat.lt_or_ge l m1.rows.length with h4 | h4
   ·rcases k.rowNew l b h3 h4 hb with h5 | ⟨l1,h5,h6,h7⟩
    ·exact .inl (Nat.le_trans h.size h5)
    ·have:=k.rows;have:=h2.2
     rcases fin l1 h6 (by omega) with h8 | ⟨l0,h8,h9,h10⟩
     ·exact .inl h8
     ·exact .inr ⟨l0,h8,h9,Nat.le_trans h10 h7⟩
   ·obtain⟨x,y⟩:=k.rowOut l h4
    rw[x] at hb
    rcases fin l hb a2 with h8 | ⟨l0,h8,h9,h10⟩
    ·exact .inl h8
    ·exact .inr ⟨l0,h8,h9,by rw[y];exact h10⟩
 same:=fun b hb a1 a2=>by
  have hs:=h.size
  rw[k.same b (by omega) (fun l hl e=>?_) (fun l hl e=>?_),h.same b hb a1 a2]
  ·have e':=h.boxDown e hb
   rcases Nat.lt_or_ge l m0.boxes.length with h3 | h3
   ·exact a1 l h3 e'
   ·have:=k.boxes;have:=h2.1
    rw[h.freshBox l h3 (by omega)] at e';cases e'
  ·rcases Nat.lt_or_ge l m0.rows.length with h3 | h3
   ·exact a2 l h3 (h.rowIn l b h3 e).1
   ·have:=k.rows;have:=h2.2
    rcases h.rowNew l b h3 (by omega) e with h4 | ⟨l0,h4,h5,_⟩
    ·omega
    ·exact a2 l0 h4 h5
 sameRow:=fun id b hid hb arr t ha=>by
  obtain⟨arr',ha',hz,he⟩:=h.sameRow id b hid hb arr t ha
  have hlt:=hm.row id b hb
  have hs:=h.size
  by_cases hr:∃ l,l<m.rows.length∧g.row l=some (some b)
  ·obtain⟨l,hl,hbl⟩:=hr
   obtain⟨l0,h1,h2⟩:=h.rowDown hbl hlt
   have e:=hm.rowInj _ _ _ h1 hb
   subst e
   obtain⟨arr'',ha'',hz',he'⟩:=k.sameRow l b hl hbl arr' t ha'
   exact⟨arr'',ha'',hz'.trans hz,fun j hj=>(he' j (Nat.lt_of_lt_of_le hj h2)).trans (he j hj)⟩
  ·refine⟨arr',?_,hz,he⟩
   rw[k.same b (by omega) (fun l hl e=>hm.apart l id b (h.boxDown e hlt) hb) (fun l hl e=>hr ⟨l,hl,e⟩)]
   exact ha'
theorem Aa.less (hm:Aa g M w) (h:Ext m M):Aa g m w :=
 { hm with
  boxOk:=fun l b c hb hc=>hm.boxOk l b c hb (h.get hc)
  rowLive:=fun id n hn hne=>hm.rowLive id n (h.getRow hn) hne
  rowOk:=fun id b n cs hb hc=>hm.rowOk id b n cs hb (h.getRow hc) }
theorem Aa.more (hM:Aa g M w) (h1:Ext m m1) (h2:Ext m1 M) (hs:As g m g' m1 w w1) (hm1:Aa g' m1 w1):Aa g' M w1 :=
 { hm1 with
  boxOk:=fun l b c hb hc=>by
   rcases Nat.lt_or_ge l m1.boxes.length with h3 | h3
   ·exact hm1.boxOk l b c hb (by rw[← h2.box h3];exact hc)
   ·have hg:g.box l=some b:=by rw[← hs.boxOld l (.inr h3)];exact hb
    have hlt:=hM.box l b hg
    refine(hM.boxOk l b c hg hc).step (hM.less (h1.trans h2)) hs (hs.same b hlt (fun l' hl' e=>?_) (fun l' hl' e=>hM.apart l l' b hg e))
    have:=hM.boxInj l l' b hg e
    have:=hs.boxes
    omega
  rowLive:=fun id n hn hne=>by
   rcases Nat.lt_or_ge id m1.rows.length with h3 | h3
   ·exact hm1.rowLive id n (by rw[← h2.row h3];exact hn) hne
   ·obtain⟨x,y⟩:=hs.rowOut id h3
    rw[x] at hne ⊢
    rw[y]
    exact hM.rowLive id n hn hne
  rowOk:=fun id b n cs hb hc=>by
   rcases Nat.lt_or_ge id m1.rows.length with h3 | h3
   ·exact hm1.rowOk id b n cs hb (by rw[← h2.row h3];exact hc)
   ·have hg:g.row id=some (some b):=by rw[← (hs.rowOut id h3).1];exact hb
    have hlt:=hM.row id b hg
    refine(hM.rowOk id b n cs hg hc).step (hM.less (h1.trans h2)) hs (hs.same b hlt (fun l' hl' e=>hM.apart l' id b e hg) (fun l' hl' e=>?_))
    have:=hM.rowInj id l' b hg e
    have:=hs.rows
    omega }
end
end
section
section
variable {P:Program} {ops:Array Oper} {p:Nat} {sw:Option (Nat × Nat)} {late:List Nat} {env:Nat→List AV} {mem:Nat→Mem} {val:Nat→AV} {done:Nat→Bool}
theorem EA.len (hc:EA P ops p sw env mem val done):∀ k,k≤ops.size→(env k).length=(env 0).length:=by
 intro k
 induction k with
 | zero=>intro _;rfl
 | succ k ih =>
  intro hk
  have ho:ops[k]?=some ops[k]:=Array.getElem?_eq_getElem (by omega)
  rw[hc.envs k _ ho]
  cases hd:(ops[k]).dst with
  | none=>simp[DS,ih (by omega)]
  | some d=>simp[DS,ih (by omega)]
theorem EA.between (hc:EA P ops p sw env mem val done) {t a:Nat}:∀ b,a≤b→b≤ops.size→(∀ i o,a≤i→i<b→ops[i]?=some o→o.dst≠some t)→(env b)[t]?=(env a)[t]?:=by
 intro b
 induction b with
 | zero =>
      intro h _ _;have:a=0:=by omega
      subst this;rfl
 | succ b ih =>
  intro h hb hn
  rcases Nat.lt_or_ge a (b+1) with h1 | h1
  ·have ho:ops[b]?=some ops[b]:=Array.getElem?_eq_getElem (by omega)
   rw[hc.envs b _ ho,← ih (by omega) (by omega) (fun i o h2 h3=>hn i o h2 (by omega))]
   have hd:=hn b _ (by omega) (by omega) ho
   cases he:(ops[b]).dst with
   | none=>rfl
   | some d =>
    simp only[DS,List.getElem?_set]
    rw[if_neg]
    intro e;subst e;exact hd he
  ·have:a=b+1:=by omega
   subst this;rfl
def FG (ops:Array Oper) (done:Nat→Bool) (k:Nat):Prop:=∃ o,ops[k]?=some o∧done k=true∧Bh o.op=false
theorem EA.quiet (hc:EA P ops p sw env mem val done) {k:Nat} (hk:k<ops.size) (h:¬ FG ops done k):mem (k+1)=mem k:=by
 have ho:ops[k]?=some ops[k]:=Array.getElem?_eq_getElem hk
 cases hd:done k with
 | false=>exact(hc.skip k _ ho hd).2
 | true =>
  cases hp:Bh (ops[k]).op with
  | true=>exact(Lb hp (hc.pure k _ ho hd hp)).1
  | false=>exact absurd ⟨_,ho,hd,hp⟩ h
theorem EA.still (hc:EA P ops p sw env mem val done) {a:Nat}:∀ b,a≤b→b≤ops.size→(∀ i,a≤i→i<b→¬ FG ops done i)→mem b=mem a:=by
 intro b
 induction b with
 | zero =>
      intro h _ _;have:a=0:=by omega
      subst this;rfl
 | succ b ih =>
  intro h hb hn
  rcases Nat.lt_or_ge a (b+1) with h1 | h1
  ·rw[hc.quiet (by omega) (hn b (by omega) (by omega))]
   exact ih (by omega) (by omega) (fun i h2 h3=>hn i h2 (by omega))
  ·have:a=b+1:=by omega
   subst this;rfl
theorem EA.ext (hc:EA P ops p sw env mem val done) {a:Nat}:∀ b,a≤b→b≤p→b≤ops.size→Ext (mem a) (mem b):=by
 intro b
 induction b with
 | zero =>
      intro h _ _;have:a=0:=by omega
      subst this;exact Ext.refl _
 | succ b ih =>
  intro h hp hb
  rcases Nat.lt_or_ge a (b+1) with h1 | h1
  ·refine(ih (by omega) (by omega) (by omega)).trans ?_
   have ho:ops[b]?=some ops[b]:=Array.getElem?_eq_getElem (by omega)
   by_cases hl:FG ops done b
   ·obtain⟨o,h2,h3,h4⟩:=hl
    exact(hc.loud b o h2 h3 h4).2.1 (by omega)
   ·rw[hc.quiet (by omega) hl];exact Ext.refl _
  ·have:a=b+1:=by omega
   subst this;exact Ext.refl _
theorem EA.mono (hc:EA P ops p sw env mem val done) {a:Nat}:∀ b,a≤b→b≤ops.size→Bx (mem a) (mem b):=by
 intro b
 induction b with
 | zero =>
      intro h _;have:a=0:=by omega
      subst this;exact Bx.refl _
 | succ b ih =>
  intro h hb
  rcases Nat.lt_or_ge a (b+1) with h1 | h1
  ·refine(ih (by omega) (by omega)).trans ?_
   by_cases hl:FG ops done b
   ·obtain⟨o,h2,h3,h4⟩:=hl
    exact(hc.loud b o h2 h3 h4).1.1
   ·rw[hc.quiet (by omega) hl];exact Bx.refl _
  ·have:a=b+1:=by omega
   subst this;exact Bx.refl _
structure Hd (ops:Array Oper) (env:Nat→List AV) (mem:Nat→Mem) (S:Nat→Prop) (g0:Gh) (w0:World) (g:Gh) (w:World) (tmps:Array Value) (M:Mem):Prop where
 closed:∀ i o,S i→ops[i]?=some o→∀ e∈o.after,Region.binds .any e=true→S e.on
 size:tmps.size=(env 0).length
 slots:∀ t,t<(env 0).length→∃ k,k≤ops.size∧(∀ i o,ops[i]?=some o→o.dst=some t→(S i ↔ i<k))∧∀ a v,(env k)[t]?=some a→tmps[t]?=some v→Rep g w a v
 free:∀ j,j<ops.size→¬ S j→(∀ l,(mem j).boxes.length≤l→l<(mem (j+1)).boxes.length→g.box l=none)∧∀ l,(mem j).rows.length≤l→l<(mem (j+1)).rows.length→g.row l=none
 memOk:Aa g M w
 step:As g0 (mem 0) g M w0 w
structure AOR (ops:Array Oper) (p:Nat) (late:List Nat) (mem:Nat→Mem) (done:Nat→Bool) (S:Nat→Prop) (c:Nat) (M:Mem):Prop where
 cLow:p≤c∧c≤ops.size
 cHigh:∀ i,c≤i→FG ops done i→¬ S i
 cDone:∀ i,p≤i→i<c→FG ops done i→S i
 cAll:p<c→∀ i,i<p→FG ops done i→S i∨i∈late
 memEq:M=mem c
structure APf (ops:Array Oper) (p:Nat) (mS:Mem) (done:Nat→Bool) (S:Nat→Prop) (a b:Nat) (M:Mem):Prop where
 low:p≤a∧a<b∧b<ops.size
 high:∀ i,a≤i→i≠b→FG ops done i→¬ S i
 all:∀ i,i<a→FG ops done i→S i
 lb:FG ops done b
 la:FG ops done a
 has:S b
 memEq:M=mS
theorem EA.swap (hc:EA P ops p sw env mem val done) (hd:FC ops p sw late=true):∃ mS,∀ a b,sw=some (a,b)→∀ oa ob,ops[a]?=some oa→ops[b]?=some ob→FG ops done a→FG ops done b →
  AOp P ob (env b) (mem a) (val b) mS∧AOp P oa (env a) mS (val a) (mem (b+1))∧mS.boxes.length=(mem a).boxes.length∧mS.rows.length=(mem a).rows.length∧(mem (b+1)).boxes.length=(mem a).boxes.length∧(mem (b+1)).rows.length=(mem a).rows.length:=by
 cases sw with
 | none=>exact⟨mem 0,fun a b h=>by cases h⟩
 | some q =>
  obtain⟨a,b⟩:=q
  by_cases hl:FG ops done a∧FG ops done b
  ·obtain⟨⟨oa,ha,hda,hpa⟩,⟨ob,hb,hdb,hpb⟩⟩:=hl
   obtain⟨hab,hpl,hbet⟩:=NH hd
   have hbs:=(Array.getElem?_eq_some_iff.1 hb).1
   obtain⟨hea,tA,A,xA,id,off,y,h1,h2,h3,h4⟩:=((hc.loud a oa ha hda hpa).2.2 a b rfl).1 rfl
   obtain⟨heb,tB,B,xB,l,off',y',h1',h2',h3',h4'⟩:=((hc.loud b ob hb hdb hpb).2.2 a b rfl).2 rfl
   have hmb:mem b=mem (a+1):=hc.still b (by omega) (by omega) (fun i h5 h6 h7=>by
    obtain⟨o,ho,hd,hp⟩:=h7
    have:=hbet i o (by omega) h6 ho
    rw[hp] at this;cases this)
   rw[hmb] at h4'
   -- the two stores' facts
   obtain⟨cs,n,hr,hn,hcond,hma⟩:∃ cs n,(mem a).rows[id]?=some (some (0,cs))∧Av P tA=some n∧(y.cells.length=n∧off+n≤cs.length∧Bj y=true)∧mem (a+1)=(mem a).setRow id 0 (Ca cs off y.cells):=by
    simp only[FL] at h4
    split at h4
    ·rename_i cs n hr hn
     split at h4
     ·rename_i hcond
      injection h4 with h4
      exact⟨cs,n,hr,hn,hcond,h4.symm⟩
     ·cases h4
    ·cases h4
   obtain⟨cs',n',hr',hn',hcond',hmb1⟩:∃ cs n,(mem (a+1)).boxes[l]?=some (.cells cs)∧Av P tB=some n∧(y'.cells.length=n∧off'+n≤cs.length∧Bj y'=true)∧mem (b+1)=(mem (a+1)).set l (.cells (Ca cs off' y'.cells)):=by
    simp only[FL] at h4'
    split at h4'
    ·rename_i cs n hr hn
     split at h4'
     ·rename_i hcond
      injection h4' with h4'
      exact⟨cs,n,hr,hn,hcond,h4'.symm⟩
     ·cases h4'
    ·cases h4'
   have hbox:(mem (a+1)).boxes=(mem a).boxes:=by rw[hma];rfl
   rw[hbox] at hr'
   refine⟨(mem a).set l (.cells (Ca cs' off' y'.cells)),fun a' b' he oa' ob' ha' hb' _ _=>?_⟩
   injection he with he;injection he with e1 e2;subst e1 e2
   rw[ha] at ha';injection ha' with ha';subst ha'
   rw[hb] at hb';injection hb' with hb';subst hb'
   refine⟨?_,?_,by simp[Mem.set],by simp[Mem.set],by rw[hmb1,hma];simp[Mem.set,Mem.setRow],by rw[hmb1,hma];simp[Mem.set,Mem.setRow]⟩
   ·rw[heb]
    refine JN (P:=P) (o:=ob) ?_
    rw[h1']
    simp[aop,h2',h3',FL,hr',hn',hcond']
   ·rw[hea]
    refine JN (P:=P) (o:=oa) ?_
    rw[h1]
    have:((mem a).set l (.cells (Ca cs' off' y'.cells))).rows=(mem a).rows:=rfl
    simp[aop,h2,h3,FL,this,hr,hn,hcond,hmb1,hma,Mem.set,Mem.setRow]
  ·exact⟨mem 0,fun a' b' he oa ob ha hb hla hlb=>by
    injection he with he;injection he with e1 e2;subst e1 e2
    exact absurd ⟨hla,hlb⟩ hl⟩
theorem Hd.look {S:Nat→Prop} {g0 g:Gh} {w0 w:World} {tmps:Array Value} {M0:Mem} (hc:EA P ops p sw env mem val done) (hd:FC ops p sw late=true) (h:Hd ops env mem S g0 w0 g w tmps M0) {j:Nat} {o:Oper} (ho:ops[j]?=some o)
  (hr:∀ e∈o.after,Region.binds .any e=true→S e.on) (hn:¬ S j) {t:Nat} (ht:t∈o.looksAt ops) {a:AV} (ha:(env j)[t]?=some a):∃ v,tmps[t]?=some v∧Rep g w a v:=by
 have hj:=(Array.getElem?_eq_some_iff.1 ho).1
 have htl:t<(env 0).length:=by rw[← hc.len j (by omega)];exact(List.getElem?_eq_some_iff.1 ha).1
 obtain⟨k,hk,hw,hrep⟩:=h.slots t htl
 obtain⟨_,hpath⟩:=HD hd
 have hlow:∀ i x,ops[i]?=some x→x.dst=some t→i<j→i<k:=by
  intro i x hx hxd hij
  have h1:=(hpath i j x o hx ho hij).1 (by simp[KX,hxd,ht])
  exact(hw i x hx hxd).1 (KE h.closed j o ho hr i h1)
 have hhigh:∀ i x,ops[i]?=some x→x.dst=some t→j≤i→k≤i:=by
  intro i x hx hxd hij
  rcases Nat.lt_or_ge i k with h2 | h2
  ·have hsi:=(hw i x hx hxd).2 h2
   rcases Nat.eq_or_lt_of_le hij with h3 | h3
   ·subst h3;exact absurd hsi hn
   ·have h1:=(hpath j i o x ho hx h3).1 (by simp[KX,hxd,ht])
    exact absurd (KE h.closed i x hx (h.closed i x hsi hx) j h1) hn
  ·exact h2
 have he:(env k)[t]?=(env j)[t]?:=by
  rcases Nat.le_total j k with h1 | h1
  ·exact hc.between k h1 hk (fun i x h2 h3 hx hxd=>by have:=hhigh i x hx hxd h2;omega)
  ·exact(hc.between j h1 (by omega) (fun i x h2 h3 hx hxd=>by have:=hlow i x hx hxd h3;omega)).symm
 have htz:t<tmps.size:=by rw[h.size];exact htl
 exact⟨tmps[t],Array.getElem?_eq_getElem htz,hrep a _ (by rw[he];exact ha) (Array.getElem?_eq_getElem htz)⟩
theorem Hd.repE {S:Nat→Prop} {g0 g:Gh} {w0 w:World} {act:Act} {M0:Mem} (hc:EA P ops p sw env mem val done) (hd:FC ops p sw late=true) (h:Hd ops env mem S g0 w0 g w act.tmps M0) {j:Nat} {o:Oper} (ho:ops[j]?=some o)
  (hr:∀ e∈o.after,Region.binds .any e=true→S e.on) (hn:¬ S j):ACQ g w (env j) o.op.operands act.eval:=by
 intro x hx av hxa
 cases x with
 | tmp t =>
  have ht:t∈o.looksAt ops:=by
   simp only[Oper.looksAt,List.mem_append,List.mem_filterMap]
   exact .inl ⟨.tmp t,by simpa using hx,rfl⟩
  obtain⟨v,h1,h2⟩:=h.look hc hd ho hr hn ht hxa
  show Rep g w av (act.tmps.getD t Go.undef)
  rw[Array.getD_eq_getD_getElem?,h1,Option.getD_some]
  exact h2
 | const v=>exact NQ hxa
 | func f =>
  injection hxa with hxa;subst hxa
  exact .func f [] [] #[] #[] rfl (fun j c v h=>by simp at h) rfl (fun j c v h=>by simp at h)
 | global k=>exact Wj h.memOk.tab hxa
theorem Hd.want {S:Nat→Prop} {g0 g:Gh} {w0 w:World} {act:Act} {M0:Mem} (hc:EA P ops p sw env mem val done) (hd:FC ops p sw late=true) (h:Hd ops env mem S g0 w0 g w act.tmps M0) {j:Nat} {o:Oper} (ho:ops[j]?=some o)
  (hr:∀ e∈o.after,Region.binds .any e=true→S e.on) (hn:¬ S j):Region.wanted o (yielded ops act.tmps)=done j:=by
 have hw:=hc.wanted j o ho
 unfold DN at hw
 unfold Region.wanted
 split at hw
 ·rename_i hg;injection hw with hw;simp[hg,← hw]
 ·rename_i q want hg
  simp only[hg,yielded]
  split at hw
  ·rename_i hdq
   injection hw with hw
   rw[hdq,← hw];rfl
  ·rename_i d hdq
   rw[hdq]
   simp only[Option.bind_some]
   have ht:d∈o.looksAt ops:=by
    simp only[Oper.looksAt,hg,hdq,List.mem_append]
    exact .inr (by simp)
   split at hw
   ·rename_i b' he
    injection hw with hw
    obtain⟨v,h1,h2⟩:=h.look hc hd ho hr hn ht he
    rw[h1,h2.atom_inv,← hw]
    cases b' <;> cases want <;> rfl
   ·rename_i vs he
    injection hw with hw
    obtain⟨v,h1,h2⟩:=h.look hc hd ho hr hn ht he
    rw[h1,← hw]
    generalize hx:AV.tuple vs=x at h2
    cases h2 <;> cases hx
    rfl
   ·cases hw
theorem Hd.next {S:Nat→Prop} {g0 g g1:Gh} {w0 w w1:World} {act:Act} {M0:Mem} (hc:EA P ops p sw env mem val done) (hd:FC ops p sw late=true) (h:Hd ops env mem S g0 w0 g w act.tmps M0) {j:Nat} {o:Oper} (ho:ops[j]?=some o)
  (hr:∀ e∈o.after,Region.binds .any e=true→S e.on) (hn:¬ S j) {v:Value} {M M':Mem} (hM:Aa g M w) (hs:As g M g1 M' w w1) (hv:Rep g1 w1 (val j) v)
  {M1:Mem}
  (hlow:∀ i,i<ops.size→i≠j→(mem (i+1)).boxes.length≤M.boxes.length∧(mem (i+1)).rows.length≤M.rows.length∨M'.boxes.length≤(mem i).boxes.length∧M'.rows.length≤(mem i).rows.length∨(M.boxes.length=M'.boxes.length∧M.rows.length=M'.rows.length))
  (hm1:Aa g1 M1 w1) (hst:As g0 (mem 0) g1 M1 w0 w1):Hd ops env mem (fun i=>S i∨i=j) g0 w0 g1 w1 (act.put o.dst v).tmps M1:=by
 have hj:=(Array.getElem?_eq_some_iff.1 ho).1
 refine⟨fun i x hi hx e he hb=>?_,?_,fun t ht=>?_,fun i hi hni=>?_,hm1,hst⟩
 ·rcases hi with hi | rfl
  ·exact .inl (h.closed i x hi hx e he hb)
  ·rw[ho] at hx;injection hx with hx;subst hx;exact .inl (hr e he hb)
 ·cases hdd:o.dst <;> simp[Act.put,h.size]
 ·by_cases hdt:o.dst=some t
  ·refine⟨j+1,by omega,fun i x hx hxd=>⟨fun hi=>?_,fun hi=>?_⟩,fun a u ha hu=>?_⟩
   ·rcases hi with hi | rfl
    ·rcases Nat.lt_or_ge j i with h1 | h1
     ·have h2:=((HD hd).2 j i o x ho hx h1).1 (by simp[KX,hdt,hxd])
      exact absurd (KE h.closed i x hx (h.closed i x hi hx) j h2) hn
     ·omega
    ·omega
   ·rcases Nat.lt_or_ge i j with h1 | h1
    ·have h2:=((HD hd).2 i j x o hx ho h1).1 (by simp[KX,hdt,hxd])
     exact .inl (KE h.closed j o ho hr i h2)
    ·exact .inr (by omega)
   ·rw[hc.envs j o ho,hdt] at ha
    simp only[DS,List.getElem?_set,if_true] at ha
    rw[hdt] at hu
    simp only[Act.put,Array.getElem?_setIfInBounds,if_true] at hu
    split at ha
    ·split at hu
     ·injection ha with ha;injection hu with hu;subst ha hu;exact hv
     ·cases hu
    ·cases ha
  ·obtain⟨k,hk,hw,hrep⟩:=h.slots t ht
   refine⟨k,hk,fun i x hx hxd=>⟨fun hi=>?_,fun hi=>.inl ((hw i x hx hxd).2 hi)⟩,fun a u ha hu=>?_⟩
   ·rcases hi with hi | rfl
    ·exact(hw i x hx hxd).1 hi
    ·rw[ho] at hx;injection hx with hx;subst hx;exact absurd hxd hdt
   ·refine(hrep a u ha ?_).step hM hs
    rw[← hu]
    cases hdd:o.dst with
    | none=>rfl
    | some d =>
     simp only[Act.put,Array.getElem?_setIfInBounds]
     rw[if_neg]
     intro e;subst e;exact hdt hdd
 ·have hij:i≠j:=fun e=>hni (.inr e)
  have hsi:¬ S i:=fun e=>hni (.inl e)
  obtain⟨f1,f2⟩:=h.free i hi hsi
  have hlt:=hlow i hi hij
  refine⟨fun l h1 h2=>?_,fun l h1 h2=>?_⟩
  ·have hb:=hs.boxes
   rw[hs.boxOld l (by rcases hlt with a | a | a <;> omega)]
   exact f1 l h1 h2
  ·have hb:=hs.rows
   cases hrow:g1.row l with
   | none=>rfl
   | some x =>
    exfalso
    have hne:g1.row l≠none:=by rw[hrow];simp
    have hg:g.row l=none:=f2 l h1 h2
    rcases Nat.lt_or_ge l M.rows.length with h3 | h3
    ·exact((hs.rowStay l h3).1 hne) hg
    ·rcases Nat.lt_or_ge l M'.rows.length with h4 | h4
     ·rcases hlt with a | a | a <;> omega
     ·rw[(hs.rowOut l h4).1] at hne;exact hne hg
end
end
section
section
variable {P:Program} {ops:Array Oper} {p:Nat} {sw:Option (Nat × Nat)} {late:List Nat} {env:Nat→List AV} {mem:Nat→Mem} {val:Nat→AV} {done:Nat→Bool}
def FK (ops:Array Oper) (listed:Array Bool) (i:Nat):Prop:=i<ops.size∧listed[i]?=some true
theorem Hd.congr {S S':Nat→Prop} {g0 g:Gh} {w0 w:World} {tmps:Array Value} {M0:Mem} (h:Hd ops env mem S g0 w0 g w tmps M0) (he:∀ i,S i ↔ S' i):Hd ops env mem S' g0 w0 g w tmps M0:=by
 have:S=S':=funext fun i=>propext (he i)
 rw[← this];exact h
def Ctl (ops:Array Oper) (p:Nat) (late:List Nat) (sw:Option (Nat × Nat)) (mem:Nat→Mem) (mS:Mem) (done:Nat→Bool) (S:Nat→Prop) (M:Mem):Prop:=(∃ c,AOR ops p late mem done S c M)∨∃ a b,sw=some (a,b)∧APf ops p mS done S a b M
theorem Ctl.congr {mS M:Mem} {S S':Nat→Prop} (h:Ctl ops p late sw mem mS done S M) (he:∀ i,S i ↔ S' i):Ctl ops p late sw mem mS done S' M:=by
 have:S=S':=funext fun i=>propext (he i)
 rw[← this];exact h
theorem Ctl.quiet {mS M:Mem} {S:Nat→Prop} (h:Ctl ops p late sw mem mS done S M) {i:Nat} (hi:¬ FG ops done i):Ctl ops p late sw mem mS done (fun k=>S k∨k=i) M:=by
 rcases h with⟨c,h⟩|⟨a,b,hs,h⟩
 ·refine .inl ⟨c,h.cLow,fun k h1 h2 h3=>?_,fun k h1 h2 h3=>.inl (h.cDone k h1 h2 h3),fun h1 k h2 h3=>(h.cAll h1 k h2 h3).imp .inl id,h.memEq⟩
  rcases h3 with h3 | h3
  ·exact h.cHigh k h1 h2 h3
  ·subst h3;exact hi h2
 ·refine .inr ⟨a,b,hs,h.low,fun k h1 h2 h3 h4=>?_,fun k h1 h2=>.inl (h.all k h1 h2),h.lb,h.la,.inl h.has,h.memEq⟩
  rcases h4 with h4 | h4
  ·exact h.high k h1 h2 h3 h4
  ·subst h4;exact hi h3
theorem EA.range (hc:EA P ops p sw env mem val done) {a b:Nat} (h:a≤b) (hb:b≤ops.size):(mem a).boxes.length≤(mem b).boxes.length∧(mem a).rows.length≤(mem b).rows.length:=hc.mono b h hb
def ADO (P:Program) (ops:Array Oper) (p:Nat) (late:List Nat) (env:Nat→List AV) (mem:Nat→Mem) (val:Nat→AV) (done:Nat→Bool):Prop:=∀ i o,i∈late→ops[i]?=some o→FG ops done i→∀ c,p≤c→c≤ops.size→AOp P o (env i) (mem c) (val i) (mem c)
theorem ADv (hc:EA P ops p sw env mem val done) (hd:FC ops p sw late=true) (hlate:ADO P ops p late env mem val done) {g0:Gh} {w0:World} {ds:List Deferred} (hm0:Aa g0 (mem 0) w0) (hp:p≤ops.size) (ro:Option Nat) {Q:Exit→Act→World→Prop} (hQ:∀ a' w',a'.defers=ds→(∃ g',As g0 (mem 0) g' (mem ops.size) w0 w'∧Aa g' (mem ops.size) w'∧Bi g' w' (env ops.size) a'.tmps)→Q .normal a' w')  {mS:Mem} (hmS:∀ a b,sw=some (a,b)→∀ oa ob,ops[a]?=some oa→ops[b]?=some ob→FG ops done a→FG ops done b →
  AOp P ob (env b) (mem a) (val b) mS∧AOp P oa (env a) mS (val a) (mem (b+1))∧mS.boxes.length=(mem a).boxes.length∧mS.rows.length=(mem a).rows.length∧(mem (b+1)).boxes.length=(mem a).boxes.length∧(mem (b+1)).rows.length=(mem a).rows.length) :
  ∀ (fuel:Nat) (listed:Array Bool) (act:Act) (g:Gh) (w:World) (M:Mem),
  listed.size=ops.size→listed.toList.countP (· == false)=fuel→act.defers=ds→Hd ops env mem (FK ops listed) g0 w0 g w act.tmps M→Ctl ops p late sw mem mS done (FK ops listed) M →
  wpAnyIn (Fw ro) 0 P .any ops Q fuel listed act w:=by
 intro fuel
 induction fuel with
 | zero =>
  intro listed act g w M hl hcount hds h hctl
  have hall:∀ i,i<ops.size→FK ops listed i:=by
   intro i hi
   refine⟨hi,?_⟩
   have h1:listed[i]?=some listed[i]:=Array.getElem?_eq_getElem (by omega)
   rw[h1]
   have h2:=List.countP_eq_zero.1 hcount listed[i] (by simp)
   simpa using h2
  have hmem:mem ops.size=M:=by
   rcases hctl with⟨c,hn⟩|⟨a,b,hs,hk⟩
   ·have hquiet:∀ i,c≤i→i<ops.size→¬ FG ops done i:=fun i h1 h2 h3=>hn.cHigh i h1 h3 (hall i h2)
    rw[hn.memEq]
    exact hc.still ops.size hn.cLow.2 (Nat.le_refl _) hquiet
   ·have:=hk.low
    exact absurd (hall a (by omega)) (hk.high a (Nat.le_refl _) (by omega) hk.la)
  refine⟨?_,hQ _ _ hds ⟨g,by rw[hmem];exact h.step,by rw[hmem];exact h.memOk,?_⟩⟩
  ·apply List.filter_eq_nil_iff.2
   intro i hi
   simp only[List.mem_range] at hi
   have:=(hall i hi).2
   simp[this]
  ·refine⟨by rw[h.size,hc.len _ (Nat.le_refl _)],fun t a v ha hv=>?_⟩
   have ht:t<(env 0).length:=by rw[← hc.len ops.size (Nat.le_refl _)];exact(List.getElem?_eq_some_iff.1 ha).1
   obtain⟨k,hk,hw,hrep⟩:=h.slots t ht
   refine hrep a v ?_ hv
   rw[← ha]
   exact(hc.between ops.size hk (Nat.le_refl _) (fun i o h1 h2 ho hod=>by
    have:=(hw i o ho hod).1 (hall i h2);omega)).symm
 | succ fuel ih =>
  intro listed act g w M hl hcount hds h hctl
  refine⟨fun hnil=>?_,fun i hi=>?_⟩
  ·exfalso
   have hex:∃ i,i<ops.size∧listed[i]?=some false:=by
    have h1:0<listed.toList.countP (· == false):=by omega
    obtain⟨b,hb,hbf⟩:=List.countP_pos_iff.1 h1
    obtain⟨i,hi,he⟩:=List.getElem_of_mem hb
    have hi':i<listed.size:=by simpa using hi
    refine⟨i,by omega,?_⟩
    rw[Array.getElem?_eq_getElem hi']
    have:listed[i]=b:=by simpa using he
    rw[this];simpa using hbf
   -- the first that is not listed is ready
   have key:∀ n,∀ i,i≤n→i<ops.size→listed[i]?=some false→False:=by
    intro n
    induction n with
    | zero =>
     intro i hi0 hi1 hi2
     have:i=0:=by omega
     subst this
     have hr:(0:Nat)∈Region.ready .any ops listed:=by
      simp only[Region.ready,List.mem_filter,List.mem_range]
      refine⟨hi1,?_⟩
      have ho:ops[0]?=some ops[0]:=Array.getElem?_eq_getElem hi1
      simp only[Array.getD_eq_getD_getElem?,hi2,ho,Option.map_some,Option.getD_some,Bool.not_false,Bool.true_and]
      rw[Array.all_eq_true_iff_forall_mem]
      intro e he
      cases hb:Region.binds .any e with
      | false=>simp
      | true=>have:=(HD hd).1 0 _ ho e he hb;omega
     rw[hnil] at hr;cases hr
    | succ n ihn =>
     intro i hi0 hi1 hi2
     have hr:i∈Region.ready .any ops listed:=by
      simp only[Region.ready,List.mem_filter,List.mem_range]
      refine⟨hi1,?_⟩
      have ho:ops[i]?=some ops[i]:=Array.getElem?_eq_getElem hi1
      simp only[Array.getD_eq_getD_getElem?,hi2,ho,Option.map_some,Option.getD_some,Bool.not_false,Bool.true_and]
      rw[Array.all_eq_true_iff_forall_mem]
      intro e he
      cases hb:Region.binds .any e with
      | false=>simp
      | true =>
       have hlt:=(HD hd).1 i _ ho e he hb
       have h1:listed[e.on]?=some listed[e.on]:=Array.getElem?_eq_getElem (by omega)
       cases hv:listed[e.on] with
       | true=>rw[h1,hv];simp
       | false=>exact(ihn e.on (by omega) (by omega) (by rw[h1,hv])).elim
     rw[hnil] at hr;cases hr
   obtain⟨i,h1,h2⟩:=hex
   exact key i i (Nat.le_refl _) h1 h2
  ·simp only[Region.ready,List.mem_filter,List.mem_range] at hi
   obtain⟨hi,hrd⟩:=hi
   have ho:ops[i]?=some ops[i]:=Array.getElem?_eq_getElem hi
   generalize ops[i]=o at ho
   have hli:listed[i]?=some listed[i]:=Array.getElem?_eq_getElem (by omega)
   simp only[Array.getD_eq_getD_getElem?,hli,ho,Option.map_some,Option.getD_some,Bool.and_eq_true,Bool.not_eq_true'] at hrd
   obtain⟨hlf,hrd⟩:=hrd
   have hn:¬ FK ops listed i:=by
    rintro⟨_,h2⟩;rw[hli,hlf] at h2;cases h2
   have hr:∀ e∈o.after,Region.binds .any e=true→FK ops listed e.on:=by
    intro e he hb
    have hlt:=(HD hd).1 i o ho e he hb
    have h2:=(Array.all_eq_true_iff_forall_mem.1 hrd) e he
    have h1:listed[e.on]?=some listed[e.on]:=Array.getElem?_eq_getElem (by omega)
    rw[hb,h1] at h2
    refine⟨by omega,?_⟩
    rw[h1];simpa using h2
   have hS:∀ k,(FK ops listed k∨k=i) ↔ FK ops (listed.setIfInBounds i true) k:=by
    intro k
    simp only[FK,Array.getElem?_setIfInBounds]
    by_cases e:i=k
    ·subst e
     have:i<listed.size:=by omega
     simp[hi,this]
    ·rw[if_neg e]
     constructor
     ·rintro (h | h)
      ·exact h
      ·exact absurd h.symm e
     ·exact fun h=>.inl h
   have hcnt:(listed.setIfInBounds i true).toList.countP (· == false)=fuel:=by
    have hi':i<listed.toList.length:=by simp;omega
    have h1:=List.countP_set (p:=(· == false)) (l:=listed.toList) (i:=i) (a:=true) hi'
    rw[Array.toList_setIfInBounds,h1,hcount]
    have:listed.toList[i]=false:=by simpa using hlf
    simp[this]
   have hgo:∀ (v:Value) (g1:Gh) (w1:World) (M1:Mem),Hd ops env mem (fun k=>FK ops listed k∨k=i) g0 w0 g1 w1 (act.put o.dst v).tmps M1→Ctl ops p late sw mem mS done (fun k=>FK ops listed k∨k=i) M1 →
     wpAnyIn (Fw ro) 0 P .any ops Q fuel (listed.setIfInBounds i true) (act.put o.dst v) w1:=by
    intro v g1 w1 M1 h1 h2
    refine ih _ _ g1 w1 M1 (by simp[hl]) hcnt ?_ (h1.congr hS) (h2.congr hS)
    rw[← hds];cases o.dst <;> rfl
   have hwant:=h.want hc hd ho hr hn
   simp only[wpOpIn,ho]
   cases hdn:done i with
   | false =>
    rw[hdn] at hwant
    rw[if_neg (by rw[hwant];simp)]
    obtain⟨hv,_⟩:=hc.skip i o ho hdn
    have hnl:¬ FG ops done i:=by rintro⟨_,_,h2,_⟩;rw[hdn] at h2;cases h2
    refine⟨fun f _=>trivial,hgo Go.undef g w M ?_ (hctl.quiet hnl)⟩
    exact h.next hc hd ho hr hn (v:=Go.undef) h.memOk (As.refl g M w) (by rw[hv];exact .tuple [] #[] rfl (fun j c v h=>by simp at h)) (fun k _ _=>.inr (.inr ⟨rfl,rfl⟩)) h.memOk h.step
   | true =>
    rw[hdn] at hwant
    rw[if_pos hwant]
    cases hpu:Bh o.op with
    | true =>
     have ha:=hc.pure i o ho hdn hpu
     have hop:=JN (o:=o) ((Lb hpu ha).2 M)
     refine IQ (hop.2 g w act.eval (fun _=>rfl) (fun _=>rfl) ⟨fun l a b=>by omega,fun l a b=>by omega⟩ h.memOk (h.repE hc hd ho hr hn)) ?_
     rintro v w1 ⟨g1,hs1,hm1,hr1⟩
     have hnl:¬ FG ops done i:=by rintro⟨x,hx,h2,h3⟩;rw[ho] at hx;injection hx with hx;subst hx;rw[hpu] at h3;cases h3
     refine hgo v g1 w1 M ?_ (hctl.quiet hnl)
     exact h.next hc hd ho hr hn (v:=v) h.memOk hs1 hr1 (fun k _ _=>.inr (.inr ⟨rfl,rfl⟩)) hm1 (h.step.trans hs1 hm0)
    | false =>
     have hloud:FG ops done i:=⟨o,ho,hdn,hpu⟩
     obtain⟨hop,hext,_⟩:=hc.loud i o ho hdn hpu
     have hfree:=h.free i hi hn
     have hahead:∀ k,k<i→p≤i→FG ops done k→sw≠some (k,i)→FK ops listed k∨k∈late:=by
      rintro k hk hip ⟨x,hx,hdx,hpx⟩ hsw
      rcases ((HD hd).2 k i x o hx ho hk).2 hip hpx hpu with h1 | h1 | h1
      ·exact .inl (KE h.closed i o ho hr k h1)
      ·exact absurd h1 hsw
      ·exact .inr h1
     have hrange:∀ k,k<ops.size→k≠i→(mem (k+1)).boxes.length≤(mem i).boxes.length∧(mem (k+1)).rows.length≤(mem i).rows.length∨(mem (i+1)).boxes.length≤(mem k).boxes.length∧(mem (i+1)).rows.length≤(mem k).rows.length∨((mem i).boxes.length=(mem (i+1)).boxes.length∧(mem i).rows.length=(mem (i+1)).rows.length):=by
      intro k hk hki
      rcases Nat.lt_or_ge k i with h1 | h1
      ·exact .inl (hc.range (by omega) (by omega))
      ·exact .inr (.inl (hc.range (by omega) (by omega)))
     rcases hctl with⟨c,hctl⟩|⟨a,b,hsw,hctl⟩
     ·have hcu:∀ k,FG ops done k→c≤k→(FK ops listed k∨k=i)→k=i:=by
       intro k h1 h2 h3
       rcases h3 with h3 | h3
       ·exact absurd h3 (hctl.cHigh k h2 h1)
       ·exact h3
      have hMc:=hctl.memEq
      subst hMc
      by_cases hlt:p<c∧i<p
      ·-- a load that comes behind stores
       obtain⟨hpc,hip⟩:=hlt
       have hil:i∈late:=(hctl.cAll hpc i hip hloud).resolve_left hn
       have hop2:=hlate i o hil ho hloud c (by omega) hctl.cLow.2
       refine IQ (hop2.2 g w act.eval (fun _=>rfl) (fun _=>rfl) ⟨fun l h1 h2=>by omega,fun l h1 h2=>by omega⟩ h.memOk (h.repE hc hd ho hr hn)) ?_
       rintro v w1 ⟨g1,hs1,hm1,hr1⟩
       refine hgo v g1 w1 (mem c) ?_ (.inl ⟨c,hctl.cLow,fun k h1 h2 h3=>?_,fun k h1 h2 h3=>.inl (hctl.cDone k h1 h2 h3),fun h1 k h2 h3=>(hctl.cAll h1 k h2 h3).imp .inl id,rfl⟩)
       ·exact h.next hc hd ho hr hn (v:=v) h.memOk hs1 hr1 (fun k _ _=>.inr (.inr ⟨rfl,rfl⟩)) hm1 (h.step.trans hs1 hm0)
       ·have:=hcu k h2 h1 h3;subst this;omega
      rcases Nat.lt_or_ge i p with hip | hip
      ·-- what was there stays
       have hcp:c=p:=by
        rcases Nat.lt_or_ge p c with h1 | h1
        ·exact absurd ⟨h1,hip⟩ hlt
        ·have:=hctl.cLow.1;omega
       subst hcp
       have he1:Ext (mem i) (mem (i+1)):=hext hip
       have he2:Ext (mem (i+1)) (mem c):=hc.ext c (by omega) (Nat.le_refl _) hp
       have hmk:Aa g (mem i) w:=h.memOk.less (he1.trans he2)
       refine IQ (hop.2 g w act.eval (fun _=>rfl) (fun _=>rfl) hfree hmk (h.repE hc hd ho hr hn)) ?_
       rintro v w1 ⟨g1,hs1,hm1,hr1⟩
       refine hgo v g1 w1 (mem c) ?_ (.inl ⟨c,hctl.cLow,fun k h1 h2 h3=>?_,fun k h1 h2 h3=>.inl (hctl.cDone k h1 h2 h3),fun h1 k h2 h3=>by omega,rfl⟩)
       ·exact h.next hc hd ho hr hn (v:=v) hmk hs1 hr1 hrange (h.memOk.more he1 he2 hs1 hm1) (h.step.within hs1 hm0 (hc.mono i (by omega) (by omega)) (hc.mono c (by omega) hp))
       ·have:=hcu k h2 h1 h3;subst this;omega
      ·by_cases hsk:∃ a,sw=some (a,i)∧FG ops done a∧¬ FK ops listed a
       ·-- the later one of the pair comes first
        obtain⟨a,hsw,hla,hna⟩:=hsk
        subst hsw
        obtain⟨hai,hpa,hbet⟩:=NH hd
        have hca:c≤a:=by
         rcases Nat.lt_or_ge a c with h1 | h1
         ·exact absurd (hctl.cDone a hpa h1 hla) hna
         ·exact h1
        have hle:∀ k,k<a→FG ops done k→FK ops listed k:=fun k h1 h2=>(hahead k (by omega) hip h2 (fun e=>by injection e with e;injection e with e;omega)).resolve_right (by rw[(JP hd).2 _ rfl];simp)
        have hma:mem a=mem c:=hc.still a hca (by omega) (fun k h1 h2 h3=>hctl.cHigh k h1 h3 (hle k h2 h3))
        have hla0:=hla
        obtain⟨oa,hoa,_⟩:=hla0
        obtain⟨hop2,_,l1,l2,l3,l4⟩:=hmS a i rfl oa o hoa ho hla hloud
        rw[hma] at hop2 l1 l2
        refine IQ (hop2.2 g w act.eval (fun _=>rfl) (fun _=>rfl) ⟨fun l h1 h2=>by omega,fun l h1 h2=>by omega⟩ h.memOk (h.repE hc hd ho hr hn)) ?_
        rintro v w1 ⟨g1,hs1,hm1,hr1⟩
        refine hgo v g1 w1 mS ?_ (.inr ⟨a,i,rfl,⟨hpa,hai,hi⟩,fun k h1 h2 h3 h4=>?_,fun k h1 h2=>.inl (hle k h1 h2),hloud,hla,.inr rfl,rfl⟩)
        ·exact h.next hc hd ho hr hn (v:=v) h.memOk hs1 hr1 (fun k _ _=>.inr (.inr ⟨l1.symm,l2.symm⟩)) hm1 (h.step.trans hs1 hm0)
        ·rcases h4 with h4 | h4
         ·exact hctl.cHigh k (by omega) h3 h4
         ·exact h2 h4
       ·-- all that hangs on memory has come before
        have hbefore:∀ k,k<i→FG ops done k→FK ops listed k∨k∈late:=by
         intro k hk hlk
         by_cases e:sw=some (k,i)
         ·by_cases hlk2:FK ops listed k
          ·exact .inl hlk2
          ·exact absurd ⟨k,e,hlk,hlk2⟩ hsk
         ·exact hahead k hk hip hlk e
        have hci:c≤i:=by
         rcases Nat.lt_or_ge i c with h1 | h1
         ·exact absurd (hctl.cDone i hip h1 hloud) hn
         ·exact h1
        have hmc:mem i=mem c:=hc.still i hci (by omega) (fun k h1 h2 h3=>(hbefore k h2 h3).elim (hctl.cHigh k h1 h3) (fun hl=>by have:=(JP hd).1 k hl;have:=hctl.cLow.1;omega))
        have hmk:Aa g (mem i) w:=by rw[hmc];exact h.memOk
        refine IQ (hop.2 g w act.eval (fun _=>rfl) (fun _=>rfl) hfree hmk (h.repE hc hd ho hr hn)) ?_
        rintro v w1 ⟨g1,hs1,hm1,hr1⟩
        refine hgo v g1 w1 (mem (i+1)) ?_ (.inl ⟨i+1,⟨by omega,by omega⟩,fun k h1 h2 h3=>?_,fun k h1 h2 h3=>?_,fun h1 k h2 h3=>(hbefore k (by omega) h3).imp .inl id,rfl⟩)
        ·have h5:=h.step
         rw[← hmc] at h5
         exact h.next hc hd ho hr hn (v:=v) hmk hs1 hr1 hrange hm1 (h5.trans hs1 hm0)
        ·rcases h3 with h3 | h3
         ·exact hctl.cHigh k (by omega) h2 h3
         ·omega
        ·rcases Nat.eq_or_lt_of_le (Nat.le_of_lt_succ h2) with h4 | h4
         ·exact .inr h4
         ·exact .inl ((hbefore k h4 h3).resolve_right fun hl=>by have:=(JP hd).1 k hl;omega)
     ·-- the earlier one of the pair comes last
      subst hsw
      obtain⟨hab,hpa,hbet⟩:=NH hd
      have hMc:=hctl.memEq
      subst hMc
      have hia:i=a:=by
       rcases Nat.lt_or_ge i a with h1 | h1
       ·exact absurd (hctl.all i h1 hloud) hn
       ·rcases Nat.eq_or_lt_of_le h1 with h2 | h2
        ·exact h2.symm
        ·exfalso
         have hib:i≠b:=by rintro rfl;exact hn hctl.has
         rcases Nat.lt_or_ge i b with h3 | h3
         ·have:=hbet i o h2 h3 ho;rw[hpu] at this;cases this
         ·exact hctl.high a (Nat.le_refl _) (by omega) hctl.la ((hahead a h2 (by omega) hctl.la (fun e=>by injection e with e;injection e with e1 e2;exact hib e2.symm)).resolve_right (by rw[(JP hd).2 _ rfl];simp))
      subst hia
      obtain⟨ob,hob,_⟩:=hctl.lb
      obtain⟨_,hop2,l1,l2,l3,l4⟩:=hmS i b rfl o ob ho hob hloud hctl.lb
      refine IQ (hop2.2 g w act.eval (fun _=>rfl) (fun _=>rfl) ⟨fun l h1 h2=>by omega,fun l h1 h2=>by omega⟩ h.memOk (h.repE hc hd ho hr hn)) ?_
      rintro v w1 ⟨g1,hs1,hm1,hr1⟩
      have hlow:=hctl.low
      refine hgo v g1 w1 (mem (b+1)) ?_ (.inl ⟨b+1,⟨by omega,by omega⟩,fun k h1 h2 h3=>?_,fun k h1 h2 h3=>?_,fun h1 k h2 h3=>.inl (.inl (hctl.all k (by omega) h3)),rfl⟩)
      ·exact h.next hc hd ho hr hn (v:=v) h.memOk hs1 hr1 (fun k _ _=>.inr (.inr ⟨by omega,by omega⟩)) hm1 (h.step.trans hs1 hm0)
      ·rcases h3 with h3 | h3
       ·exact hctl.high k (by omega) (by omega) h2 h3
       ·omega
      ·rcases Nat.lt_trichotomy k i with h4 | h4 | h4
       ·exact .inl (hctl.all k h4 h3)
       ·exact .inr h4
       ·rcases Nat.eq_or_lt_of_le (Nat.le_of_lt_succ h2) with h5 | h5
        ·subst h5;exact .inl hctl.has
        ·obtain⟨o',ho',_,hp'⟩:=h3
         have:=hbet k o' h4 h5 ho'
         rw[hp'] at this;cases this
theorem Bu.drawC {lo:Option Nat} {id:Nat} (hmix:P.follows .mixedOrders=true) (hp:p≤ops.size) (hd:FC ops p sw late=true) (hc:EA P ops p sw env mem val done) (hlate:ADO P ops p late env mem val done):Bu P lo (.region id ops true) (env 0) (mem 0) .normal (env ops.size) (mem ops.size):=by
 refine⟨hc.mono ops.size (Nat.zero_le _) (Nat.le_refl _),fun ro g w a hro hf hm he=>wpIn_region_any hmix ?_⟩
 have hs0:As g (mem 0) g (mem 0) w w.drew:=HZ
 have hm0:Aa g (mem 0) w.drew:=Hf hm
 have hext:Ext (mem 0) (mem p):=hc.ext p (Nat.zero_le _) (Nat.le_refl _) hp
 have hmono:Bx (mem p) (mem ops.size):=hc.mono ops.size hp (Nat.le_refl _)
 have hmp:Aa g (mem p) w.drew:={ hm0 with
  boxOk:=fun l b c hb hc'=>by
   rcases Nat.lt_or_ge l (mem 0).boxes.length with h1 | h1
   ·exact hm0.boxOk l b c hb (by rw[← hext.box h1];exact hc')
   ·have h2:=(List.getElem?_eq_some_iff.1 hc').1
    have:=hmono.1
    rw[hf.1 l h1 (by omega)] at hb;cases hb
  rowLive:=fun l n hn hne=>by
   rcases Nat.lt_or_ge l (mem 0).rows.length with h1 | h1
   ·exact hm0.rowLive l n (by rw[← hext.row h1];exact hn) hne
   ·have h2:=(List.getElem?_eq_some_iff.1 hn).1
    have:=hmono.2
    exact absurd (hf.2 l h1 (by omega)) hne
  rowOk:=fun l b n cs hb hc'=>by
   rcases Nat.lt_or_ge l (mem 0).rows.length with h1 | h1
   ·exact hm0.rowOk l b n cs hb (by rw[← hext.row h1];exact hc')
   ·have h2:=(List.getElem?_eq_some_iff.1 hc').1
    have:=hmono.2
    rw[hf.2 l h1 (by omega)] at hb;cases hb }
 have hsp:As g (mem 0) g (mem p) w w.drew:={ hs0 with
  boxes:=hext.mono.1
  rows:=hext.mono.2
  freshBox:=fun l h1 h2=>hf.1 l h1 (Nat.lt_of_lt_of_le h2 hmono.1)
  freshRow:=fun l h1 h2=>hf.2 l h1 (Nat.lt_of_lt_of_le h2 hmono.2)
  boxOld:=fun _ _=>rfl
  rowOut:=fun _ _=>⟨rfl,rfl⟩
  rowNew:=fun l b h1 h2 hb=>by rw[hf.2 l h1 (Nat.lt_of_lt_of_le h2 hmono.2)] at hb;cases hb }
 have hno:∀ i,¬ FK ops (Array.replicate ops.size false) i:=by
  rintro i ⟨h1,h2⟩
  simp[Array.getElem?_replicate,h1] at h2
 have hstand:Hd ops env mem (FK ops (Array.replicate ops.size false)) g w g w.drew a.tmps (mem p):=by
  refine⟨fun i o hi=>absurd hi (hno i),he.1,fun t ht=>⟨0,Nat.zero_le _,fun i o _ _=>⟨fun h=>absurd h (hno i),fun h=>by omega⟩,fun x v hx hv=>(he.2 t x v hx hv).step hm hs0⟩,fun j hj _=>?_,hmp,hsp⟩
  have h1:=hc.mono j (Nat.zero_le _) (by omega)
  have h2:=hc.mono (a:=j+1) ops.size (by omega) (Nat.le_refl _)
  exact⟨fun l h3 h4=>hf.1 l (Nat.le_trans h1.1 h3) (Nat.lt_of_lt_of_le h4 h2.1),fun l h3 h4=>hf.2 l (Nat.le_trans h1.2 h3) (Nat.lt_of_lt_of_le h4 h2.2)⟩
 obtain⟨mS,hmS⟩:=hc.swap hd
 refine ADv hc hd hlate (ds:=a.defers) hm hp ro ?_ hmS ops.size (Array.replicate ops.size false) a g w.drew (mem p) (by simp) (by simp[List.countP_replicate]) rfl hstand (.inl ⟨p,⟨Nat.le_refl _,hp⟩,fun i _ _ h=>hno i h,fun i h1 h2=>by omega,fun h=>by omega,rfl⟩)
 rintro a' w' hd' ⟨g',hs',hm',he'⟩
 exact⟨rfl,g',[],by simpa using hd',.nil,hs',hm',he'⟩
theorem Bu.draw {lo:Option Nat} {id:Nat} {env0 env':List AV} {m0 m':Mem} (hmix:P.follows .mixedOrders=true) (hp:p≤ops.size) (hd:ACw ops p sw=true) (h:KT P ops p sw 0 ops.toList env0 m0 env' m'):Bu P lo (.region id ops true) env0 m0 .normal env' m':=by
 obtain⟨env,mem,val,done,rfl,rfl,h3,h4,h5⟩:=h.course
 simp only[Nat.zero_add,Array.length_toList] at h3 h4 h5
 have hc:EA P ops p sw env mem val done:=by
  refine⟨fun k o ho=>?_,fun k o ho=>?_,fun k o ho=>?_,fun k o ho=>?_,fun k o ho=>?_⟩
  ·exact(h5 k o (by simpa using ho)).1
  ·exact(h5 k o (by simpa using ho)).2.1
  ·exact(h5 k o (by simpa using ho)).2.2.1
  ·exact(h5 k o (by simpa using ho)).2.2.2.1
  ·exact(h5 k o (by simpa using ho)).2.2.2.2
 subst h3 h4
 exact Bu.drawC hmix hp (late:=[]) hd hc (fun i o hi=>by cases hi)
def swD:List Nat→Option (Nat × Nat)
 | [x,y]=>if 1000000≤x∧2000000≤y then some (x - 1000000,y - 2000000) else none
 | _=>none
def ABw (l:List Nat):List Nat:=if(swD l).isSome=true then [] else l
inductive GC (P:Program) (ops:Array Oper) (p:Nat) (late:List Nat):Nat→List Oper→List (Oper × List AV × AV)→List AV→Mem→List AV→Mem→Prop
 | nil (k:Nat) (pend:List (Oper × List AV × AV)) (env:List AV) (m:Mem):GC P ops p late k [] pend env m env m
 | pure {k:Nat} {o:Oper} {l:List Oper} {pend:List (Oper × List AV × AV)} {env env':List AV} {m m1 m':Mem} {d:AV} (hw:DN ops env o=some true) (hp:Bh o.op=true) (h:aop P o.op env m=some (d,m1)) (hk:GC P ops p late (k+1) l pend (DS env o.dst d) m1 env' m'):GC P ops p late k (o :: l) pend env m env' m'
 | loud {k:Nat} {o:Oper} {l:List Oper} {pend:List (Oper × List AV × AV)} {env env':List AV} {m m1 m':Mem} {d:AV} (hw:DN ops env o=some true) (hp:Bh o.op=false) (h:AOp P o env m d m1) (he:k<p→Ext m m1) (hl:k∈late→m1=m) (hs:Gw P (swD late) k o env m d m1) (hpend:∀ x∈pend,AOp P x.1 x.2.1 m1 x.2.2 m1)
   (hk:GC P ops p late (k+1) l (if k∈late then(o,env,d) :: pend else pend) (DS env o.dst d) m1 env' m'):GC P ops p late k (o :: l) pend env m env' m'
 | skip {k:Nat} {o:Oper} {l:List Oper} {pend:List (Oper × List AV × AV)} {env env':List AV} {m m':Mem} (hw:DN ops env o=some false) (hk:GC P ops p late (k+1) l pend (DS env o.dst .undef) m env' m'):GC P ops p late k (o :: l) pend env m env' m'
theorem GC.course {k:Nat} {l:List Oper} {pend:List (Oper × List AV × AV)} {env0 env':List AV} {m0 m':Mem} (h:GC P ops p late k l pend env0 m0 env' m'):(∀ x∈pend,AOp P x.1 x.2.1 m0 x.2.2 m0)→∃ (env:Nat→List AV) (mem:Nat→Mem) (val:Nat→AV) (done:Nat→Bool),
  env k=env0∧mem k=m0∧env (k+l.length)=env'∧mem (k+l.length)=m'∧(∀ x∈pend,∀ c,k≤c→c≤k+l.length→AOp P x.1 x.2.1 (mem c) x.2.2 (mem c))∧∀ i o,l[i]?=some o →
   DN ops (env (k+i)) o=some (done (k+i))∧env (k+i+1)=DS (env (k+i)) o.dst (val (k+i))∧(done (k+i)=false→val (k+i)=.undef∧mem (k+i+1)=mem (k+i)) ∧
   (done (k+i)=true→Bh o.op=true→aop P o.op (env (k+i)) (mem (k+i))=some (val (k+i),mem (k+i+1))) ∧
   (done (k+i)=true→Bh o.op=false→AOp P o (env (k+i)) (mem (k+i)) (val (k+i)) (mem (k+i+1))∧(k+i<p→Ext (mem (k+i)) (mem (k+i+1)))∧Gw P (swD late) (k+i) o (env (k+i)) (mem (k+i)) (val (k+i)) (mem (k+i+1))) ∧
   (done (k+i)=true→Bh o.op=false→k+i∈late→∀ c,k+i≤c→c≤k+l.length→AOp P o (env (k+i)) (mem c) (val (k+i)) (mem c)):=by
 have step:∀ (k:Nat) (o:Oper) (l:List Oper) (pend pend':List (Oper × List AV × AV)) (env0:List AV) (m0 m1:Mem) (env':List AV) (m':Mem) (d:AV) (b:Bool),
   ((∀ x∈pend',AOp P x.1 x.2.1 m1 x.2.2 m1)→∃ (env:Nat→List AV) (mem:Nat→Mem) (val:Nat→AV) (done:Nat→Bool),env (k+1)=DS env0 o.dst d∧mem (k+1)=m1∧env (k+1+l.length)=env'∧mem (k+1+l.length)=m'∧(∀ x∈pend',∀ c,k+1≤c→c≤k+1+l.length→AOp P x.1 x.2.1 (mem c) x.2.2 (mem c))∧∀ i o,l[i]?=some o →
    DN ops (env (k+1+i)) o=some (done (k+1+i))∧env (k+1+i+1)=DS (env (k+1+i)) o.dst (val (k+1+i))∧(done (k+1+i)=false→val (k+1+i)=.undef∧mem (k+1+i+1)=mem (k+1+i)) ∧
    (done (k+1+i)=true→Bh o.op=true→aop P o.op (env (k+1+i)) (mem (k+1+i))=some (val (k+1+i),mem (k+1+i+1))) ∧
    (done (k+1+i)=true→Bh o.op=false→AOp P o (env (k+1+i)) (mem (k+1+i)) (val (k+1+i)) (mem (k+1+i+1))∧(k+1+i<p→Ext (mem (k+1+i)) (mem (k+1+i+1)))∧Gw P (swD late) (k+1+i) o (env (k+1+i)) (mem (k+1+i)) (val (k+1+i)) (mem (k+1+i+1))) ∧
    (done (k+1+i)=true→Bh o.op=false→k+1+i∈late→∀ c,k+1+i≤c→c≤k+1+l.length→AOp P o (env (k+1+i)) (mem c) (val (k+1+i)) (mem c))) →
   (∀ x∈pend,AOp P x.1 x.2.1 m0 x.2.2 m0)→(∀ x∈pend',AOp P x.1 x.2.1 m1 x.2.2 m1)→(∀ x∈pend,x∈pend') →
   DN ops env0 o=some b→(b=false→d=.undef∧m1=m0)→(b=true→Bh o.op=true→aop P o.op env0 m0=some (d,m1))→(b=true→Bh o.op=false→AOp P o env0 m0 d m1∧(k<p→Ext m0 m1)∧Gw P (swD late) k o env0 m0 d m1)→(b=true→Bh o.op=false→k∈late→(o,env0,d)∈pend'∧AOp P o env0 m0 d m0) →
   ∃ (env:Nat→List AV) (mem:Nat→Mem) (val:Nat→AV) (done:Nat→Bool),env k=env0∧mem k=m0∧env (k+(o :: l).length)=env'∧mem (k+(o :: l).length)=m'∧(∀ x∈pend,∀ c,k≤c→c≤k+(o :: l).length→AOp P x.1 x.2.1 (mem c) x.2.2 (mem c))∧∀ i o',(o :: l)[i]?=some o' →
    DN ops (env (k+i)) o'=some (done (k+i))∧env (k+i+1)=DS (env (k+i)) o'.dst (val (k+i))∧(done (k+i)=false→val (k+i)=.undef∧mem (k+i+1)=mem (k+i)) ∧
    (done (k+i)=true→Bh o'.op=true→aop P o'.op (env (k+i)) (mem (k+i))=some (val (k+i),mem (k+i+1))) ∧
    (done (k+i)=true→Bh o'.op=false→AOp P o' (env (k+i)) (mem (k+i)) (val (k+i)) (mem (k+i+1))∧(k+i<p→Ext (mem (k+i)) (mem (k+i+1)))∧Gw P (swD late) (k+i) o' (env (k+i)) (mem (k+i)) (val (k+i)) (mem (k+i+1))) ∧
    (done (k+i)=true→Bh o'.op=false→k+i∈late→∀ c,k+i≤c→c≤k+(o :: l).length→AOp P o' (env (k+i)) (mem c) (val (k+i)) (mem c)):=by
  intro k o l pend pend' env0 m0 m1 env' m' d b hrec hp0 hp1 hsub c1 c2 c3 c4 c5
  obtain⟨env,mem,val,done,h1,h2,h3,h4,h6,h5⟩:=hrec hp1
  refine⟨fun j=>if j=k then env0 else env j,fun j=>if j=k then m0 else mem j,fun j=>if j=k then d else val j,fun j=>if j=k then b else done j,by simp,by simp,?_,?_,?_,?_⟩
  ·have:k+(o :: l).length≠k:=by simp
   simp only[this,if_false]
   rw[← h3];congr 1;simp;omega
  ·have:k+(o :: l).length≠k:=by simp
   simp only[this,if_false]
   rw[← h4];congr 1;simp;omega
  ·intro x hx c hc1 hc2
   simp only[List.length_cons] at hc2
   by_cases e:c=k
   ·subst e;simp only[if_true];exact hp0 x hx
   ·simp only[e,if_false];exact h6 x (hsub x hx) c (by omega) (by omega)
  ·intro i o' ho'
   cases i with
   | zero =>
    simp at ho';subst ho'
    simp only[Nat.add_zero,if_true]
    have e:k+1≠k:=by omega
    simp only[e,if_false,h1,h2]
    refine⟨c1,trivial,c2,c3,c4,fun hb hpu hl c hc1 hc2=>?_⟩
    obtain⟨g1,g2⟩:=c5 hb hpu hl
    simp only[List.length_cons] at hc2
    by_cases e:c=k
    ·subst e;simp only[if_true];exact g2
    ·simp only[e,if_false];exact h6 _ g1 c (by omega) (by omega)
   | succ i =>
    simp at ho'
    have e1:k+(i+1)≠k:=by omega
    have e2:k+(i+1)+1≠k:=by omega
    simp only[e1,e2,if_false]
    have:=h5 i o' ho'
    rw[show k+(i+1)=k+1+i from by omega]
    refine⟨this.1,this.2.1,this.2.2.1,this.2.2.2.1,this.2.2.2.2.1,fun hb hpu hl c hc1 hc2=>?_⟩
    have e3:c≠k:=by omega
    simp only[e3,if_false]
    simp only[List.length_cons] at hc2
    exact this.2.2.2.2.2 hb hpu hl c hc1 (by omega)
 induction h with
 | nil k pend env m=>intro hp0;exact⟨fun _=>env,fun _=>m,fun _=>.undef,fun _=>false,rfl,rfl,rfl,rfl,fun x hx c _ _=>hp0 x hx,fun i o h=>by simp at h⟩
 | @pure k o l pend env env' m m1 m' d hw hp h hk ih =>
  intro hp0
  have em:=(Lb hp h).1
  subst em
  exact step _ _ _ pend pend _ _ _ _ _ _ true ih hp0 hp0 (fun x h=>h) hw (fun h=>by cases h) (fun _ _=>h) (fun _ hp'=>by rw[hp] at hp';cases hp') (fun _ hp'=>by rw[hp] at hp';cases hp')
 | @loud k o l pend env env' m m1 m' d hw hp h he hl hs hpend hk ih =>
  intro hp0
  refine step _ _ _ pend _ _ _ _ _ _ _ true ih hp0 (fun x hx=>?_) (fun x hx=>?_) hw (fun h=>by cases h) (fun _ hp'=>by rw[hp] at hp';cases hp') (fun _ _=>⟨h,he,hs⟩) (fun _ _ hkl=>?_)
  ·split at hx
   ·rename_i hkl
    rcases List.mem_cons.1 hx with rfl | hx
    ·have:=hl hkl;subst this;exact h
    ·exact hpend x hx
   ·exact hpend x hx
  ·split
   ·exact List.mem_cons_of_mem _ hx
   ·exact hx
  ·have:=hl hkl;subst this
   rw[if_pos hkl]
   exact⟨List.mem_cons_self,h⟩
 | @skip k o l pend env env' m m' hw hk ih =>
  intro hp0
  exact step _ _ _ pend pend _ _ _ _ _ _ false ih hp0 hp0 (fun x h=>h) hw (fun _=>⟨rfl,rfl⟩) (fun h=>by cases h) (fun h=>by cases h) (fun h=>by cases h)
theorem Bu.drawL {lo:Option Nat} {id:Nat} {env0 env':List AV} {m0 m':Mem} (hmix:P.follows .mixedOrders=true) (hp:p≤ops.size) (hd:FC ops p (swD late) (ABw late)=true) (h:GC P ops p late 0 ops.toList [] env0 m0 env' m'):Bu P lo (.region id ops true) env0 m0 .normal env' m':=by
 obtain⟨env,mem,val,done,rfl,rfl,h3,h4,_,h5⟩:=h.course (fun x hx=>by cases hx)
 simp only[Nat.zero_add,Array.length_toList] at h3 h4 h5
 have hc:EA P ops p (swD late) env mem val done:=by
  refine⟨fun k o ho=>?_,fun k o ho=>?_,fun k o ho=>?_,fun k o ho=>?_,fun k o ho=>?_⟩
  ·exact(h5 k o (by simpa using ho)).1
  ·exact(h5 k o (by simpa using ho)).2.1
  ·exact(h5 k o (by simpa using ho)).2.2.1
  ·exact(h5 k o (by simpa using ho)).2.2.2.1
  ·intro h1 h2
   exact(h5 k o (by simpa using ho)).2.2.2.2.1 h1 h2
 subst h3 h4
 refine Bu.drawC hmix hp hd hc (fun i o hi ho hl c hc1 hc2=>?_)
 obtain⟨x,hx,h1,h2⟩:=hl
 rw[ho] at hx;injection hx with hx;subst hx
 have hip:=(JP hd).1 i hi
 have hi:i∈late:=by
  unfold ABw at hi
  split at hi
  ·cases hi
  ·exact hi
 exact(h5 i o (by simpa using ho)).2.2.2.2.2 h1 h2 hi c (by omega) hc2
theorem GC.aops {k:Nat} {l:List Oper} {pend:List (Oper × List AV × AV)} {env env':List AV} {m m':Mem} (h:GC P ops p late k l pend env m env' m'):LT P ops l env m env' m':=by
 induction h with
 | nil k pend env m=>exact .nil env m
 | pure hw hp h hk ih=>exact .op hw (JN h) ih
 | loud hw hp h he hl hs hpend hk ih=>exact .op hw h ih
 | skip hw hk ih=>exact .skip hw ih
end
end
section
def Ft (P:Program) (f:FuncId) (args:List AV) (m:Mem) (K:AV→Mem→Prop):Prop:=∃ r m1,EB P f args m r m1∧K r m1
def HL (P:Program) (fv:AV) (args:List AV) (m:Mem) (K:AV→Mem→Prop):Prop:=∃ r m1,IF P fv args m r m1∧K r m1
theorem HL.mono {P:Program} {fv:AV} {args:List AV} {m:Mem} {K K':AV→Mem→Prop} (h:HL P fv args m K) (hk:∀ r m1,K r m1→K' r m1):HL P fv args m K' :=
 let ⟨r,m1,h1,h2⟩:=h;⟨r,m1,h1,hk r m1 h2⟩
theorem HL.func {P:Program} {f:FuncId} {first cap args:List AV} {m:Mem} {K:AV→Mem→Prop} (h:Ft P f (first++args++cap) m K):HL P (.func f first cap) args m K :=
 let ⟨r,m1,h1,h2⟩:=h;⟨r,m1,.of_func h1,h2⟩
def Vo:Op→Bool
 | .load .. | .alloc _ | .box .. | .buildSlice .. | .makeMap .. | .lookup ..=>true
 | op=>Bh op
def RL:Op→Bool
 | .call { callee:=.value _,.. }=>true
 | _=>false
def WOp (P:Program) (op:Op) (env:List AV) (m:Mem) (early:Prop) (K:AV→Mem→Prop):Prop :=
 match op with
 | .call { callee:=.value f,args,.. } =>
  match BF env f,EQ env args.toList with
  | some fv,some as_=>HL P fv (as_.map AV.strip) m fun r m1=>(early→Ext m m1)∧K r m1
  | _,_=>False
 | op =>
  match aop P op env m with
  | some (d,m1)=>K d m1
  | none=>False
def GO:Nat→List Oper→Nat
 | k,[]=>k
 | k,o :: l=>if Vo o.op || RL o.op then GO (k+1) l else k
def KO (pr:Nat × Option (Nat × Nat)) (k:Nat) (op:Op) (ev:Operand→Option AV):Bool :=
 match pr.2 with
 | none=>true
 | some (a,b) =>
  (k != a || match op with
   | .store _ x _=>match ev x with
    | some (.vptr _ _)=>true
    | _=>false
   | _=>false) &&
  (k != b || match op with
   | .store _ x _=>match ev x with
    | some (.ptr _ _)=>true
    | _=>false
   | _=>false)
def MU (b:Bool) (X:Prop):Prop:=b=true∧X
def IC (P:Program) (ops:Array Oper) (p:Nat × Option (Nat × Nat)) (Q:List AV→Mem→Prop):Nat→List Oper→List AV→Mem→Prop
 | _,[],env,m=>Q env m
 | k,o :: l,env,m =>
  match DN ops env o with
  | some true=>MU (KO p k o.op (BF env)) (WOp P o.op env m (k<p.1) fun d m1=>IC P ops p Q (k+1) l (DS env o.dst d) m1)
  | some false=>IC P ops p Q (k+1) l (DS env o.dst .undef) m
  | none=>False
def Vs:Nat→List Oper→List Nat
 | _,[]=>[]
 | k,o :: l=>if RL o.op then k :: Vs (k+1) l else Vs (k+1) l
def AJ8 (ops:Array Oper) (k:Nat):Bool:=(List.range k).all fun i=>match ops[i]?,(FW [] ops.toList)[k]? with
 | some x,some b=>Bh x.op || b.testBit i
 | _,_=>false
def dP0 (ops:Array Oper):Nat × Option (Nat × Nat):=match Vs 0 ops.toList with
 | [k]=>if((ops.toList.drop (k+1)).all (fun o=>Bh o.op)&&decide (k<GO 0 ops.toList)&&AJ8 ops k)=true then(k,none) else(GO 0 ops.toList,YP ops (GO 0 ops.toList))
 | _=>(GO 0 ops.toList,YP ops (GO 0 ops.toList))
theorem AEh (ops:Array Oper):(dP0 ops).1≤GO 0 ops.toList:=by
 unfold dP0
 split
 ·split
  ·rename_i h
   simp only[Bool.and_eq_true,decide_eq_true_eq] at h
   exact Nat.le_of_lt h.1.2
  ·exact Nat.le_refl _
 ·exact Nat.le_refl _
def UC (ops:Array Oper) (draw:Bool):Nat × Option (Nat × Nat):=if draw then dP0 ops else(0,none)
def FA:Code→Bool
 | .seq a b=>FA a&&FA b
 | .cond _ a b=>FA a&&FA b
 | .block _ c=>FA c
 | .scope c=>FA c
 | .loop c=>FA c
 | .region _ ops true=>ACw ops (dP0 ops).1 (dP0 ops).2
 | .rangeFunc _ _ a b=>FA a&&FA b
 | _=>true
def WC (P:Program) (lo:Option Nat):Code→(Exit→List AV→Mem→Prop)→List AV→Mem→Prop
 | .skip,Q=>Q .normal
 | .exit id,Q=>Q (.exit id)
 | .ret,Q=>Q .ret
 | .seq a b,Q=>WC P lo a fun e env m=>match e with
  | .normal=>WC P lo b Q env m
  | e=>Q e env m
 | .cond c a b,Q=>fun env m=>match c with
  | .tmp t=>match env[t]? with
   | some (.atom (.bool true))=>WC P lo a Q env m
   | some (.atom (.bool false))=>WC P lo b Q env m
   | _=>False
  | _=>False
 | .block id c,Q=>WC P lo c fun e=>Q (KS id e)
 | .scope c,Q=>WC P lo c fun e env m=>Qj e=true∧Q e env m
 | .label _,Q=>Q .normal
 | .loop c,Q=>fun env m=>∃ e env' m',Kp P lo c env m e env' m'∧Q e env' m'
 | .region _ ops draw,Q=>fun env m=>IC P ops (UC ops draw) (Q .normal) 0 ops.toList env m
 | .rangeFunc f ps a b,Q=>fun env m=>∃ e env' m',Bu P lo (.rangeFunc f ps a b) env m e env' m'∧Q e env' m'
 | _,_=>fun _ _=>False
def RN (P:Program) (lo:Option Nat) (c:Code) (Q:Exit→List AV→Mem→Prop) (env:List AV) (m:Mem):Prop:=∃ e env' m',Kp P lo c env m e env' m'∧Q e env' m'
theorem ABq:∀ (l:List Oper) (k:Nat),GO k l≤k+l.length:=by
 intro l
 induction l with
 | nil=>intro k;exact Nat.le_refl _
 | cons o l ih =>
  intro k
  simp only[GO,List.length_cons]
  split
  ·have:=ih (k+1);omega
  ·omega
section
variable {P:Program}
theorem WOp.op {op:Op} {env:List AV} {m:Mem} {early:Prop} {K:AV→Mem→Prop} (h:WOp P op env m early K):(∃ d m1,aop P op env m=some (d,m1)∧K d m1) ∨
  ∃ c f fv as_,op=.call c∧c.callee=.value f∧BF env f=some fv∧EQ env c.args.toList=some as_∧∃ d m1,IF P fv (as_.map AV.strip) m d m1∧(early→Ext m m1)∧K d m1:=by
 unfold WOp at h
 split at h
 ·rename_i f args ts
  split at h
  ·rename_i fv as_ h1 h2
   obtain⟨r,m1,h3,h4,h5⟩:=h
   exact .inr ⟨_,f,fv,as_,rfl,rfl,h1,h2,r,m1,h3,h4,h5⟩
  ·exact h.elim
 ·split at h
  ·rename_i d m1 h1
   exact .inl ⟨d,m1,h1,h⟩
  ·exact h.elim
theorem SN {pr:Nat × Option (Nat × Nat)} {k a b:Nat} {op:Op} {ev:Operand→Option AV} (h:KO pr k op ev=true) (hs:pr.2=some (a,b)) :
  (k=a→∃ t x y id off,op=.store t x y∧ev x=some (.vptr id off))∧(k=b→∃ t x y l off,op=.store t x y∧ev x=some (.ptr l off)):=by
 simp only[KO,hs,Bool.and_eq_true,Bool.or_eq_true,bne_iff_ne,ne_eq] at h
 obtain⟨h1,h2⟩:=h
 refine⟨fun hk=>?_,fun hk=>?_⟩
 ·rcases h1 with h1 | h1
  ·exact absurd hk h1
  ·split at h1
   ·rename_i t x y
    split at h1
    ·rename_i id off hx;exact⟨t,x,y,id,off,rfl,hx⟩
    ·cases h1
   ·cases h1
 ·rcases h2 with h2 | h2
  ·exact absurd hk h2
  ·split at h2
   ·rename_i t x y
    split at h2
    ·rename_i id off hx;exact⟨t,x,y,id,off,rfl,hx⟩
    ·cases h2
   ·cases h2
theorem ABV {pr:Nat × Option (Nat × Nat)} {k:Nat} {o:Oper} {env:List AV} {m m1:Mem} {d:AV} (hc:KO pr k o.op (BF env)=true) (h:aop P o.op env m=some (d,m1)):Gw P pr.2 k o env m d m1:=by
 intro a b hab
 obtain⟨h1,h2⟩:=SN hc hab
 have key:∀ t x y p,o.op=.store t x y→BF env x=some p→d=.undef∧∃ v,BF env y=some v∧FL P m t p v=some m1:=by
  intro t x y p ho hx
  rw[ho] at h
  simp only[aop,hx,Option.bind_some] at h
  obtain⟨v,hv,h⟩:=AE h
  cases hs:FL P m t p v with
  | none=>rw[hs] at h;cases h
  | some m2=>rw[hs] at h;injection h with h;injection h with e1 e2;subst e1 e2;exact⟨rfl,v,hv,hs⟩
 refine⟨fun hk=>?_,fun hk=>?_⟩
 ·obtain⟨t,x,y,id,off,ho,hx⟩:=h1 hk
  obtain⟨hd,v,hv,hs⟩:=key t x y _ ho hx
  exact⟨hd,t,x,y,id,off,v,ho,hx,hv,hs⟩
 ·obtain⟨t,x,y,id,off,ho,hx⟩:=h2 hk
  obtain⟨hd,v,hv,hs⟩:=key t x y _ ho hx
  exact⟨hd,t,x,y,id,off,v,ho,hx,hv,hs⟩
theorem ABI {pr:Nat × Option (Nat × Nat)} {k:Nat} {o:Oper} {c:Call} {env:List AV} {m m1:Mem} {d:AV} (hc:KO pr k o.op (BF env)=true) (h:o.op=.call c):Gw P pr.2 k o env m d m1:=by
 intro a b hab
 obtain⟨h1,h2⟩:=SN hc hab
 refine⟨fun hk=>?_,fun hk=>?_⟩
 ·obtain⟨t,x,y,id,off,ho,hx⟩:=h1 hk;rw[h] at ho;cases ho
 ·obtain⟨t,x,y,id,off,ho,hx⟩:=h2 hk;rw[h] at ho;cases ho
theorem IC.ops {ops:Array Oper} {p:Nat × Option (Nat × Nat)} {Q:List AV→Mem→Prop}:∀ {l:List Oper} {k:Nat} {env:List AV} {m:Mem},IC P ops p Q k l env m→∃ env' m',LT P ops l env m env' m'∧Q env' m':=by
 intro l
 induction l with
 | nil=>intro k env m h;exact⟨env,m,.nil env m,h⟩
 | cons o l ih =>
  intro k env m h
  simp only[IC] at h
  split at h
  ·rename_i hw
   replace h:=h.2
   rcases h.op with⟨d,m1,h1,h2⟩|⟨c,f,fv,as_,h1,h2,h3,h4,d,m1,h5,h6,h7⟩
   ·obtain⟨env',m',h3,h4⟩:=ih h2
    exact⟨env',m',.op hw (JN h1) h3,h4⟩
   ·obtain⟨env',m',h8,h9⟩:=ih h7
    exact⟨env',m',.op hw (.call h1 h2 h3 h4 h5) h8,h9⟩
  ·rename_i hw
   obtain⟨env',m',h3,h4⟩:=ih h
   exact⟨env',m',.skip hw h3,h4⟩
  ·exact h.elim
theorem AE1 {op:Op} {env:List AV} {m m1:Mem} {d:AV} (hk:Vo op=true) (h:aop P op env m=some (d,m1)):Ext m m1:=by
 by_cases hp:Bh op=true
 ·rw[(Lb hp h).1];exact Ext.refl _
 ·cases op <;> first | (exact absurd hk hp) | skip
  ·simp only[aop] at h
   cases hz:DE P ‹_› with
   | none=>rw[hz] at h;cases h
   | some cs=>rw[hz] at h;injection h with h;injection h with h1 h2;subst h2;exact Ext.push _ _
  ·simp only[aop] at h
   obtain⟨a,_,h⟩:=AE h
   split at h
   ·injection h with h;injection h with h1 h2;subst h2;exact Ext.push _ _
   ·cases h
  ·rename_i tt len ps
   simp only[aop] at h
   obtain⟨as_,_,h⟩:=AE h
   cases hx:DI P tt len as_ with
   | none=>rw[hx] at h;cases h
   | some d0 =>
    rw[hx] at h
    injection h with h
    rcases Oi P tt m d0 with hc | ⟨_,_,_,_,_,_,hc⟩ <;> rw[hc] at h <;> injection h with h1 h2 <;> subst h2
    ·exact Ext.refl _
    ·exact⟨⟨[],by simp[Mem.pushRow]⟩,⟨[_],rfl⟩,rfl⟩
  ·simp only[aop] at h
   obtain⟨a,_,h⟩:=AE h
   obtain⟨_,h⟩:=Dd h
   rw[h];exact Ext.refl _
  ·rename_i tt r
   cases r with
   | none=>simp only[aop] at h;injection h with h;injection h with h1 h2;subst h2;exact Ext.push _ _
   | some _=>simp only[aop] at h;cases h
  ·simp only[aop] at h
   obtain⟨a,_,h⟩:=AE h
   obtain⟨b,_,h⟩:=AE h
   obtain⟨_,h⟩:=Dd h
   rw[h];exact Ext.refl _
theorem IC.opsD {ops:Array Oper} {p:Nat × Option (Nat × Nat)} {Q:List AV→Mem→Prop}:∀ {l:List Oper} {k:Nat} {env:List AV} {m:Mem},p.1≤GO k l∨p.1≤k→IC P ops p Q k l env m→∃ env' m',KT P ops p.1 p.2 k l env m env' m'∧Q env' m':=by
 intro l
 induction l with
 | nil=>intro k env m _ h;exact⟨env,m,.nil k env m,h⟩
 | cons o l ih =>
  intro k env m hp h
  have hp':p.1≤GO (k+1) l∨p.1≤k+1:=by
   rcases hp with hp | hp
   ·simp only[GO] at hp
    split at hp
    ·exact .inl hp
    ·exact .inr (by omega)
   ·exact .inr (by omega)
  simp only[IC] at h
  split at h
  ·rename_i hw
   have hck:=h.1
   replace h:=h.2
   rcases h.op with⟨d,m1,h1,h2⟩|⟨c,f,fv,as_,h1,h2,h3,h4,d,m1,h5,h6,h7⟩
   ·obtain⟨env',m',h3,h4⟩:=ih hp' h2
    by_cases hpu:Bh o.op=true
    ·exact⟨env',m',.pure hw hpu h1 h3,h4⟩
    ·refine⟨env',m',.loud hw (by simpa using hpu) (JN h1) (fun hk=>?_) (ABV hck h1) h3,h4⟩
     rcases hp with hp | hp
     ·simp only[GO] at hp
      split at hp
      ·rename_i hkc
       simp only[Bool.or_eq_true] at hkc
       rcases hkc with hkc | hkc
       ·exact AE1 hkc h1
       ·exfalso
        unfold RL at hkc
        split at hkc
        ·rename_i heq;rw[heq] at h1;simp[aop] at h1
        ·cases hkc
      ·omega
     ·omega
   ·obtain⟨env',m',h8,h9⟩:=ih hp' h7
    have hpu:Bh o.op=false:=by
     obtain⟨callee,args,ts⟩:=c
     dsimp only at h2
     subst h2
     rw[h1];rfl
    exact⟨env',m',.loud hw hpu (.call h1 h2 h3 h4 h5) h6 (ABI hck h1) h8,h9⟩
  ·rename_i hw
   obtain⟨env',m',h3,h4⟩:=ih hp' h
   exact⟨env',m',.skip hw h3,h4⟩
  ·exact h.elim
theorem WC.exec {lo:Option Nat} (hmix:P.follows .mixedOrders=true):∀ {c:Code} {Q:Exit→List AV→Mem→Prop} {env:List AV} {m:Mem},FA c=true→WC P lo c Q env m→∃ e env' m',Bu P lo c env m e env' m'∧Q e env' m':=by
 intro c
 induction c with
 | skip=>intro Q env m _ h;exact⟨_,env,m,.skip env m,h⟩
 | exit id=>intro Q env m _ h;exact⟨_,env,m,.exit id env m,h⟩
 | ret=>intro Q env m _ h;exact⟨_,env,m,.ret env m,h⟩
 | seq a b iha ihb =>
  intro Q env m hd h
  simp only[FA,Bool.and_eq_true] at hd
  obtain⟨e,env1,m1,h1,h2⟩:=iha hd.1 h
  cases e with
  | normal =>
   obtain⟨e,env2,m2,h3,h4⟩:=ihb hd.2 h2
   exact⟨e,env2,m2,h1.seq h3,h4⟩
  | _=>exact⟨_,env1,m1,h1.seq_out (by simp),h2⟩
 | cond c a b iha ihb =>
  intro Q env m hd h
  simp only[FA,Bool.and_eq_true] at hd
  simp only[WC] at h
  split at h
  ·split at h
   ·rename_i t ht
    obtain⟨e,env1,m1,h1,h2⟩:=iha hd.1 h
    exact⟨e,env1,m1,Bu.cond (b:=true) rfl ht h1,h2⟩
   ·rename_i t ht
    obtain⟨e,env1,m1,h1,h2⟩:=ihb hd.2 h
    exact⟨e,env1,m1,Bu.cond (b:=false) rfl ht h1,h2⟩
   ·exact h.elim
  ·exact h.elim
 | block id c ih =>
  intro Q env m hd h
  obtain⟨e,env1,m1,h1,h2⟩:=ih hd h
  exact⟨_,env1,m1,h1.block,h2⟩
 | scope c ih =>
  intro Q env m hd h
  obtain⟨e,env1,m1,h1,h2,h3⟩:=ih hd h
  exact⟨_,env1,m1,h1.scope h2,h3⟩
 | label l=>intro Q env m _ h;exact⟨_,env,m,.label l env m,h⟩
 | loop c ih =>
  intro Q env m hd h
  obtain⟨e,env1,m1,h1,h2⟩:=h
  exact⟨e,env1,m1,.loop h1,h2⟩
 | region id ops draw =>
  intro Q env m hd h
  cases draw with
  | false =>
   obtain⟨env',m',h1,h2⟩:=IC.ops h
   exact⟨_,env',m',.region h1,h2⟩
  | true =>
   obtain⟨env',m',h1,h2⟩:=IC.opsD (p:=UC ops true) (.inl (AEh ops)) h
   have h3:=Nat.le_trans (AEh ops) (ABq ops.toList 0)
   simp at h3
   exact⟨_,env',m',.draw hmix h3 hd h1,h2⟩
 | rangeFunc f ps a b iha ihb =>
  intro Q env m hd h
  exact h
 | _=>intro Q env m _ h;exact h.elim
theorem RN.step {lo:Option Nat} (hmix:P.follows .mixedOrders=true) {c:Code} {Q:Exit→List AV→Mem→Prop} {env:List AV} {m:Mem} (hd:FA c=true) (h:WC P lo c (fun e env m=>match e with
  | .normal=>RN P lo c Q env m
  | e=>Q e env m) env m):RN P lo c Q env m:=by
 obtain⟨e,env1,m1,h1,h2⟩:=WC.exec hmix hd h
 cases e with
 | normal =>
  obtain⟨e,env2,m2,h3,h4⟩:=h2
  exact⟨e,env2,m2,Kp.round h1 h3,h4⟩
 | _=>exact⟨_,env1,m1,.out h1 (by simp),h2⟩
def AGl:Exit→Bool
 | .ret | .normal=>true
 | _=>false
def AKR (P:Program) (fn:Func) (K:AV→Mem→Prop) (e:Exit) (env:List AV) (m:Mem):Prop :=
 AGl e=true∧match Gc P fn env m with
 | some r=>K r.stripR m
 | none=>False
theorem Ft.of_body {f : FuncId} {fn : Func} {c : Code} {args : List AV} {m : Mem} {K : AV → Mem → Prop} (hmix : P.follows .mixedOrders = true) (hf : P.funcs[f]? = some fn) (hb : fn.body = some c) (hname : (fn.name == "runtime.NumGoroutine") = false) (hd : FA c = true)
  (h:WC P none c (AKR P fn K) (args++List.replicate (fn.ntmps - args.length) .undef) m):Ft P f args m K:=by
 obtain⟨e,env',m',h1,h2,h3⟩:=WC.exec hmix hd h
 split at h3
 ·rename_i r hr
  refine⟨_,m',.of_body hf hb hname h1 ?_ hr,h3⟩
  cases e <;> first | exact .inl rfl | exact .inr rfl | (simp[AGl] at h2)
 ·exact h3.elim
end
end
section
abbrev CM:=List (Nat × AV)
def GF:CM→Nat→Option AV
 | [],_=>none
 | (d,v) :: l,t=>if d=t then some v else GF l t
def sput (e:CM) (dst:Option Tmp) (d:AV):CM :=
 match dst with
 | some t=>(t,d) :: e
 | none=>e
def ET (e:CM) (env:List AV):Prop:=∀ t a,GF e t=some a→env[t]?=some a
def RS:Nat→List AV→CM
 | _,[]=>[]
 | k,a :: l=>(k,a) :: RS (k+1) l
def Cv (e:CM):Operand→Option AV
 | .tmp t=>GF e t
 | .const v=>Ez v
 | .func f=>some (.func f [] [])
 | .global k=>Kl k
def Nm (e:CM) (l:List Operand):Option (List AV):=l.mapM (Cv e)
def UU (e:CM) (l:List (Nat × Operand)):Option (List (Nat × AV)):=l.mapM fun p=>(Cv e p.2).map (p.1,·)
def ZF (e:CM):Option Operand→Option (Option AV)
 | none=>some none
 | some x=>(Cv e x).map some
def sop (P:Program) (op:Op) (env:CM) (m:Mem):Option (AV × Mem) :=
 match op with
 | .move x=>(Cv env x).map (·,m)
 | .assign x=>(Cv env x).map (·,m)
 | .pick c a b=>(Cv env c).bind fun v=>match v with
  | .atom (.bool t)=>(Cv env (if t then a else b)).map (·,m)
  | _=>none
 | .alloc t=>(DE P t).map fun cs=>(.ptr m.boxes.length 0,m.push (.cells cs))
 | .box t x=>(Cv env x).bind fun v=>if Bj v=true then some (.ptr m.boxes.length 0,m.push (.cells v.cells)) else none
 | .build t ps=>(UU env ps.toList).bind fun l=>(HO P t l).map (·,m)
 | .buildSlice t len ps=>(UU env ps.toList).bind fun l=>(DI P t len l).map (LP P t m)
 | .load t a=>(Cv env a).bind fun p=>(Fo P m t p).map (·,m)
 | .store t a x=>(Cv env a).bind fun p=>(Cv env x).bind fun v=>(FL P m t p v).map (AV.undef,·)
 | .nilCheck x=>(Cv env x).bind fun v=>match v with
  | .ptr l o=>some (.ptr l o,m)
  | .eptr e o=>some (.eptr e o,m)
  | .vptr e o=>some (.vptr e o,m)
  | .func f a b=>some (.func f a b,m)
  | _=>none
 | .binOp op t x y _=>(Cv env x).bind fun a=>(Cv env y).bind fun b=>(Bq P op t a b).map (·,m)
 | .unOp op _ x=>(Cv env x).bind fun a=>(aun op a).map (·,m)
 | .convert s t x=>(Cv env x).bind fun a=>match a,P.underlying s,P.underlying t with
  | .atom (.int _ n),some (.int _),some (.int k)=>some (.atom (.int k (k.wrap n)),m)
  | _,_,_=>none
 | .makeFunc (.func f) first cap=>(Nm env first.toList).bind fun a=>(Nm env cap.toList).map fun b=>(.func f (a.map AV.strip) b,m)
 | .slice t x lo hi mx=>(Cv env x).bind fun v=>(ZF env lo).bind fun l=>(ZF env hi).bind fun h=>(ZF env mx).bind fun k=>(GZ P t v l h k).map (·,m)
 | .fieldAddr t x f=>(Cv env x).bind fun v=>(GH P t v f).map (·,m)
 | .field t x f=>(Cv env x).bind fun v=>(MO P t v f).map (·,m)
 | .indexAddr t x i=>(Cv env x).bind fun v=>(Cv env i).bind fun k=>(EM P t v k).map (·,m)
 | .index t x i=>(Cv env x).bind fun v=>(Cv env i).bind fun k=>(LD P t v k).map (·,m)
 | .extract t i=>(Cv env t).bind fun v=>match v with
  | .tuple vs=>(vs[i]?).map (·,m)
  | _=>none
 | .call { callee:=.builtin b,args:=as_,argTypes:=ts }=>(Nm env as_.toList).bind fun l=>FT P b ts.toList l m
 | .makeMap _ none=>some (.map m.boxes.length,m.push (.map [] 0))
 | .lookup t x i ok=>(Cv env x).bind fun v=>(Cv env i).bind fun k=>(Lv P m t v k ok).map (·,m)
 | .mapUpdate t a k x=>(Cv env a).bind fun p=>(Cv env k).bind fun kv=>(Cv env x).bind fun v=>(GM P m t p kv v).map (AV.undef,·)
 | .insert t a k x=>(Cv env a).bind fun p=>(Cv env k).bind fun kv=>(Cv env x).bind fun v=>(GM P m t p kv v).map (AV.undef,·)
 | _=>none
section
variable {e:CM} {env:List AV}
theorem ET.put (h:ET e env) {d:Nat} {v:AV} (hd:d<env.length):ET ((d,v) :: e) (env.set d v):=by
 intro t a ht
 simp only[GF] at ht
 split at ht
 ·rename_i hdt;subst hdt;injection ht with ht;subst ht;rw[List.getElem?_set_self hd]
 ·rename_i hdt;rw[List.getElem?_set_ne hdt];exact h t a ht
theorem ET.sput (h:ET e env) {dst:Option Tmp} {v:AV} (hd:∀ t,dst=some t→t<env.length):ET (sput e dst v) (DS env dst v):=by
 cases dst with
 | none=>exact h
 | some t=>exact h.put (hd t rfl)
theorem ET.sub {e':CM} (h:ET e env) (hs:∀ t a,GF e' t=some a→GF e t=some a):ET e' env:=fun t a ht=>h t a (hs t a ht)
theorem SQ {e e':CM} (h:∀ p∈e',GF e p.1=some p.2):∀ t a,GF e' t=some a→GF e t=some a:=by
 intro t a ht
 induction e' with
 | nil=>cases ht
 | cons x l ih =>
  obtain⟨d,v⟩:=x
  simp only[GF] at ht
  split at ht
  ·rename_i hd;subst hd;injection ht with ht;subst ht;exact h (d,v) (List.mem_cons_self)
  ·exact ih (fun p hp=>h p (List.mem_cons_of_mem _ hp)) ht
theorem ET.args (args rest:List AV):ET (RS 0 args) (args++rest):=by
 have:∀ (l:List AV) (k:Nat) (pre:List AV),pre.length=k→∀ t a,GF (RS k l) t=some a→(pre++l)[t]?=some a:=by
  intro l
  induction l with
  | nil=>intro k pre _ t a h;cases h
  | cons x l ih =>
   intro k pre hk t a h
   simp only[RS,GF] at h
   split at h
   ·rename_i hd;subst hd;injection h with h;subst h;rw[List.getElem?_append_right (by omega),hk];simp
   ·have:=ih (k+1) (pre++[x]) (by simp[hk]) t a h
    rwa [List.append_assoc] at this
 intro t a h
 have h1:=this args 0 [] rfl t a h
 rw[List.nil_append] at h1
 rw[List.getElem?_append_left (List.getElem?_eq_some_iff.1 h1).1];exact h1
theorem EW {α β:Type} {o o':Option α} {f f':α→Option β} {b:β} (ho:∀ a,o=some a→o'=some a) (hf:∀ a,f a=some b→f' a=some b) (h:o.bind f=some b):o'.bind f'=some b:=by
 obtain⟨a,h1,h2⟩:=AE h
 rw[ho a h1];exact hf a h2
theorem Kb {α β:Type} {o o':Option α} {f:α→β} {b:β} (ho:∀ a,o=some a→o'=some a) (h:o.map f=some b):o'.map f=some b:=by
 cases o with
 | none=>cases h
 | some a=>rw[ho a rfl];exact h
theorem Dx (hf:ET e env) {x:Operand}:∀ a,Cv e x=some a→BF env x=some a:=by
 intro a h
 cases x <;> first | exact hf _ _ h | exact h
theorem NA {α β:Type} {f f':α→Option β} (hf:∀ x a,f x=some a→f' x=some a):∀ {l:List α} (r:List β),l.mapM f=some r→l.mapM f'=some r:=by
 intro l
 induction l with
 | nil=>intro r h;exact h
 | cons x l ih =>
  intro r h
  simp only[List.mapM_cons,Option.pure_def,Option.bind_eq_bind] at h ⊢
  exact EW (hf x) (fun a h=>EW ih (fun _ h=>h) h) h
theorem Mr (hf:ET e env) {l:List Operand}:∀ r,Nm e l=some r→EQ env l=some r:=NA fun x a h=>Dx hf a h
theorem ADI (hf:ET e env) {l:List (Nat × Operand)}:∀ r,UU e l=some r→JM env l=some r:=NA fun x a h=>Kb (Dx hf) h
theorem Vy (hf:ET e env) {x:Option Operand}:∀ r,ZF e x=some r→Jz env x=some r:=by
 intro r h
 cases x with
 | none=>exact h
 | some x=>exact Kb (Dx hf) h
theorem AJr (hf:ET e env) {P:Program} {op:Op} {m:Mem} {r:AV × Mem} (h:sop P op e m=some r):aop P op env m=some r:=by
 cases op <;> try (first | exact h | exact Kb (Dx hf) h | exact EW (Dx hf) (fun _ h=>h) h | exact EW (ADI hf) (fun _ h=>h) h | exact EW (Dx hf) (fun _ h=>EW (Dx hf) (fun _ h=>h) h) h | exact EW (Dx hf) (fun _ h=>EW (Dx hf) (fun _ h=>EW (Dx hf) (fun _ h=>h) h) h) h)
 ·-- pick
  simp only[sop] at h
  obtain⟨v,h1,h2⟩:=AE h
  simp only[aop,Dx hf v h1]
  split at h2
  ·exact Kb (Dx hf) h2
  ·cases h2
 ·-- makeFunc
  rename_i f first cap
  cases f <;> first | exact h | exact EW (Mr hf) (fun _ h=>Kb (Mr hf) h) h
 ·-- makeMap
  rename_i t r'
  cases r' <;> exact h
 ·-- slice
  exact EW (Dx hf) (fun _ h=>EW (Vy hf) (fun _ h=>EW (Vy hf) (fun _ h=>EW (Vy hf) (fun _ h=>h) h) h) h) h
 ·-- call
  rename_i c
  obtain⟨callee,as_,ts⟩:=c
  cases callee <;> first | exact h | exact EW (Mr hf) (fun _ h=>h) h
end
structure Fc where
 dst:Option Tmp
 op:Op
 guard:Option (Option Tmp × Bool)
inductive ID where
 | skip
 | ret
 | bad
 | exit (id:Nat)
 | region (d:Option Nat) (ops:List Fc)
 | seq (a b:ID)
 | cond (t:Tmp) (a b:ID)
 | block (id:Nat) (c:ID)
 | scope (c:ID)
 | loop (k:Nat)
 | range (f:Operand) (ps:Array Tmp) (k j:Nat)
def At:Code→List Code
 | .seq a b=>At a++At b
 | .cond _ a b=>At a++At b
 | .block _ c=>At c
 | .scope c=>At c
 | .loop c=>c :: At c
 | .rangeFunc _ _ a b=>a :: (At a++b :: At b)
 | _=>[]
def BH:Code→Nat
 | .seq a b=>BH a+BH b
 | .cond _ a b=>BH a+BH b
 | .block _ c=>BH c
 | .scope c=>BH c
 | .loop c=>BH c+1
 | .rangeFunc _ _ a b=>BH a+BH b+2
 | _=>0
def LG (ops:Array Oper) (o:Oper):Fc:=⟨o.dst,o.op,o.guard.map fun g=>((ops[g.1]?).bind (·.dst),g.2)⟩
def HN (ops:Array Oper):List Oper→List Fc
 | []=>[]
 | o :: l=>LG ops o :: HN ops l
def Dk:Nat→Code→ID
 | _,.skip=>.skip
 | _,.ret=>.ret
 | _,.exit id=>.exit id
 | _,.region id ops draw=>.region (if draw then some id else none) (HN ops ops.toList)
 | k,.seq a b=>.seq (Dk k a) (Dk (k+BH a) b)
 | k,.cond (.tmp t) a b=>.cond t (Dk k a) (Dk (k+BH a) b)
 | k,.block id c=>.block id (Dk k c)
 | k,.scope c=>.scope (Dk k c)
 | _,.label _=>.skip
 | k,.loop c=>.loop k
 | k,.rangeFunc f ps a b=>.range f ps k (k+1+BH a)
 | _,_=>.bad
def Cd (P:Program) (f:FuncId):Code:=((P.funcs[f]?).bind (·.body)).getD .skip
def Bm (P:Program) (f:FuncId) (k:Nat):Code:=((At (Cd P f))[k]?).getD .skip
def rpC (id:Nat):Code→Option (Nat × Option (Nat × Nat))
 | .seq a b=>(rpC id a).or (rpC id b)
 | .cond _ a b=>(rpC id a).or (rpC id b)
 | .block _ c=>rpC id c
 | .scope c=>rpC id c
 | .loop c=>rpC id c
 | .rangeFunc _ _ a b=>(rpC id a).or (rpC id b)
 | .region i ops draw=>if i=id∧draw=true then some (UC ops true) else none
 | _=>none
def rp (P:Program) (f:FuncId) (id:Nat):Nat × Option (Nat × Nat):=(rpC id (Cd P f)).getD (0,none)
def Hg (all:Code):Code→Bool
 | .seq a b=>Hg all a&&Hg all b
 | .cond _ a b=>Hg all a&&Hg all b
 | .block _ c=>Hg all c
 | .scope c=>Hg all c
 | .loop c=>Hg all c
 | .rangeFunc _ _ a b=>Hg all a&&Hg all b
 | .region i ops true=>decide (rpC i all=some (UC ops true))
 | _=>true
def BN (P:Program) (f:FuncId):Nat:=((P.funcs[f]?).map (·.ntmps)).getD 0
def okD (n:Nat):Code→Bool
 | .seq a b=>okD n a&&okD n b
 | .cond _ a b=>okD n a&&okD n b
 | .block _ c=>okD n c
 | .scope c=>okD n c
 | .loop c=>okD n c
 | .region _ ops _=>ops.toList.all fun o=>match o.dst with
  | some t=>decide (t<n)
  | none=>true
 | .rangeFunc _ _ a b=>okD n a&&okD n b
 | _=>true
def Nq (env:CM) (o:Fc):Option Bool :=
 match o.guard with
 | none=>some true
 | some (none,_)=>some false
 | some (some d,want) =>
  match GF env d with
  | some (.atom (.bool b))=>some (b == want)
  | some (.tuple _)=>some false
  | _=>none
def ZD (x:Option (AV × Mem)) (K:AV→Mem→Prop):Prop :=
 match x with
 | some (d,m1)=>K d m1
 | none=>False
def sgo (x:Option Bool) (A B:Prop):Prop :=
 match x with
 | some true=>A
 | some false=>B
 | none=>False
def ACa (P:Program) (x:Option AV) (y:Option (List AV)) (m:Mem) (early:Prop) (K:AV→Mem→Prop):Prop :=
 match x,y with
 | some fv,some as_=>HL P fv (as_.map AV.strip) m fun r m1=>(early→Ext m m1)∧K r m1
 | _,_=>False
def SOp (P:Program) (op:Op) (env:CM) (m:Mem) (early:Prop) (K:AV→Mem→Prop):Prop :=
 match op with
 | .call { callee:=.value f,args,.. }=>ACa P (Cv env f) (Nm env args.toList) m early K
 | op=>ZD (sop P op env m) K
def KC (P:Program) (p:Nat × Option (Nat × Nat)) (Q:CM→Mem→Prop):Nat→List Fc→CM→Mem→Prop
 | _,[],env,m=>Q env m
 | k,o :: l,env,m=>sgo (Nq env o) (MU (KO p k o.op (Cv env)) (SOp P o.op env m (k<p.1) fun d m1=>KC P p Q (k+1) l (sput env o.dst d) m1)) (KC P p Q (k+1) l (sput env o.dst .undef) m)
def WK (n:Nat) (Q:CM→Mem→Prop) (env:List AV) (m:Mem):Prop:=env.length=n∧∃ e,ET e env∧Q e m
def Gy (P:Program) (f:FuncId) (lo:Option Nat) (k:Nat) (Q:Exit→CM→Mem→Prop) (e:CM) (m:Mem):Prop:=∀ env,env.length=BN P f→ET e env→RN P lo (Bm P f k) (fun x=>WK (BN P f) (Q x)) env m
def Pz (P:Program) (f:FuncId) (lo:Option Nat) (g:Operand) (ps:Array Tmp) (k j:Nat) (Q:Exit→CM→Mem→Prop) (e:CM) (m:Mem):Prop :=
 ∀ env,env.length=BN P f→ET e env→∃ x env' m',Bu P lo (.rangeFunc g ps (Bm P f k) (Bm P f j)) env m x env' m'∧WK (BN P f) (Q x) env' m'
def ABm (A B:Prop):Option AV→Prop
 | some (.atom (.bool true))=>A
 | some (.atom (.bool false))=>B
 | _=>False
def Ov (K:CM→Mem→Prop) (Q:Exit→CM→Mem→Prop):Exit→CM→Mem→Prop
 | .normal=>K
 | e=>Q e
def SC (P:Program) (f:FuncId) (lo:Option Nat):ID→(Exit→CM→Mem→Prop)→CM→Mem→Prop
 | .skip,Q=>Q .normal
 | .exit id,Q=>Q (.exit id)
 | .ret,Q=>Q .ret
 | .bad,_=>fun _ _=>False
 | .seq a b,Q=>SC P f lo a (Ov (SC P f lo b Q) Q)
 | .cond t a b,Q=>fun env m=>ABm (SC P f lo a Q env m) (SC P f lo b Q env m) (GF env t)
 | .block id c,Q=>SC P f lo c fun e=>Q (KS id e)
 | .scope c,Q=>SC P f lo c fun e env m=>Qj e=true∧Q e env m
 | .loop k,Q=>Gy P f lo k Q
 | .region none ops,Q=>KC P (0,none) (Q .normal) 0 ops
 | .region (some id) ops,Q=>KC P (rp P f id) (Q .normal) 0 ops
 | .range g ps k j,Q=>Pz P f lo g ps k j Q
def FJ:List AV→AV
 | [v]=>v
 | vs=>.tuple vs
def Js (x:Option AV) (K:AV→Prop):Prop :=
 match x with
 | some r=>K r
 | none=>False
section
variable {P:Program} {f:FuncId} {lo:Option Nat}
theorem Eh (c:Code):(At c).length=BH c:=by
 induction c <;> simp_all [At,BH]
 omega
theorem KB:∀ {c d:Code} {k:Nat},(At c)[k]?=some d→∀ i,i<BH d→(At d)[i]?=(At c)[k+1+i]?:=by
 have app:∀ {l1 l2:List Code} {d:Code} {k:Nat},(∀ {k},l1[k]?=some d→∀ i,i<BH d→(At d)[i]?=l1[k+1+i]?)→(∀ {k},l2[k]?=some d→∀ i,i<BH d→(At d)[i]?=l2[k+1+i]?)→(l1++l2)[k]?=some d→∀ i,i<BH d→(At d)[i]?=(l1++l2)[k+1+i]?:=by
  intro l1 l2 d k h1 h2 h i hi
  by_cases hk:k<l1.length
  ·rw[List.getElem?_append_left hk] at h
   have h3:=h1 h i hi
   have h4:i<(At d).length:=by rw[Eh];exact hi
   have h5:k+1+i<l1.length:=by
    rcases Nat.lt_or_ge (k+1+i) l1.length with h6 | h6
    ·exact h6
    ·rw[List.getElem?_eq_none h6,List.getElem?_eq_getElem h4] at h3;cases h3
   rw[List.getElem?_append_left h5];exact h3
  ·rw[List.getElem?_append_right (by omega)] at h
   have h3:=h2 h i hi
   rw[List.getElem?_append_right (by omega),h3]
   congr 1;omega
 have cons:∀ {c:Code} {d:Code} {k:Nat},(∀ {k},(At c)[k]?=some d→∀ i,i<BH d→(At d)[i]?=(At c)[k+1+i]?)→(c :: At c)[k]?=some d→∀ i,i<BH d→(At d)[i]?=(c :: At c)[k+1+i]?:=by
  intro c d k h1 h i hi
  cases k with
  | zero =>
   simp at h
   subst h
   rw[show 0+1+i=i+1 from by omega,List.getElem?_cons_succ]
  | succ k =>
   rw[List.getElem?_cons_succ] at h
   rw[show k+1+1+i=(k+1+i)+1 from by omega,List.getElem?_cons_succ]
   exact h1 h i hi
 intro c
 induction c with
 | seq a b iha ihb=>intro d k h;exact app (fun h=>iha h) (fun h=>ihb h) h
 | cond _ a b iha ihb=>intro d k h;exact app (fun h=>iha h) (fun h=>ihb h) h
 | block _ c ih=>intro d k h;exact ih h
 | scope c ih=>intro d k h;exact ih h
 | loop c ih=>intro d k h;exact cons (fun h=>ih h) h
 | rangeFunc _ _ a b iha ihb =>
  intro d k h
  simp only[At] at h ⊢
  rw[← List.cons_append] at h ⊢
  exact app (fun h=>cons (fun h=>iha h) h) (fun h=>cons (fun h=>ihb h) h) h
 | _=>intro d k h;simp[At] at h
theorem VE {ops:Array Oper} {e:CM} {env:List AV} (hf:ET e env) {o:Oper} {b:Bool} (h:Nq e (LG ops o)=some b):DN ops env o=some b:=by
 unfold Nq LG at h
 unfold DN
 cases hg:o.guard with
 | none=>rw[hg] at h;exact h
 | some g =>
  obtain⟨j,w⟩:=g
  rw[hg] at h
  simp only[Option.map_some] at h
  dsimp only
  cases hd:(ops[j]?).bind (·.dst) with
  | none=>rw[hd] at h;exact h
  | some d =>
   rw[hd] at h
   dsimp only at h ⊢
   cases hv:GF e d with
   | none=>rw[hv] at h;cases h
   | some v=>rw[hf d v hv];rw[hv] at h;exact h
theorem AIn {op:Op} {e:CM} {env:List AV} (hf:ET e env) {m:Mem} {early:Prop} {K K':AV→Mem→Prop} (hk:∀ d m1,K d m1→K' d m1) (h:SOp P op e m early K):WOp P op env m early K':=by
 have plain:ZD (sop P op e m) K→(∃ d m1,aop P op env m=some (d,m1)∧K' d m1):=by
  intro h
  unfold ZD at h
  split at h
  ·rename_i d m1 hr;exact⟨d,m1,AJr hf hr,hk d m1 h⟩
  ·exact h.elim
 have out:(∃ d m1,aop P op env m=some (d,m1)∧K' d m1)→(match aop P op env m with
  | some (d,m1)=>K' d m1
  | none=>False):=by
  rintro⟨d,m1,h1,h2⟩;rw[h1];exact h2
 cases op <;> try exact out (plain h)
 rename_i c
 obtain⟨callee,as_,ts⟩:=c
 cases callee <;> try exact out (plain h)
 rename_i g
 simp only[SOp,ACa] at h
 simp only[WOp]
 split at h
 ·rename_i fv vs h1 h2
  rw[Dx hf _ h1,Mr hf _ h2]
  exact h.mono fun r m1 hr=>⟨hr.1,hk r m1 hr.2⟩
 ·exact h.elim
theorem AFi {e:CM} {env:List AV} (hf:ET e env) {p:Nat × Option (Nat × Nat)} {k:Nat} {op:Op} (h:KO p k op (Cv e)=true):KO p k op (BF env)=true:=by
 unfold KO at h ⊢
 cases hp:p.2 with
 | none=>rfl
 | some q =>
  obtain⟨a,b⟩:=q
  rw[hp] at h
  simp only[Bool.and_eq_true,Bool.or_eq_true] at h ⊢
  refine⟨h.1.imp id fun h1=>?_,h.2.imp id fun h1=>?_⟩
  ·split at h1
   ·split at h1
    ·rename_i hx;rw[Dx hf _ hx]
    ·cases h1
   ·cases h1
  ·split at h1
   ·split at h1
    ·rename_i hx;rw[Dx hf _ hx]
    ·cases h1
   ·cases h1
theorem WZ {ops:Array Oper} {p:Nat × Option (Nat × Nat)} {n:Nat} {Q:CM→Mem→Prop}:∀ (l:List Oper) (k:Nat) (e:CM) (env:List AV) (m:Mem),env.length=n→ET e env→(l.all fun o=>match o.dst with
  | some t=>decide (t<n)
  | none=>true)=true→KC P p Q k (HN ops l) e m→IC P ops p (WK n Q) k l env m:=by
 intro l
 induction l with
 | nil=>intro k e env m hn hf _ h;exact⟨hn,e,hf,h⟩
 | cons o l ih =>
  intro k e env m hn hf hd h
  simp only[List.all_cons,Bool.and_eq_true] at hd
  have hdst:∀ t,o.dst=some t→t<env.length:=by
   intro t ht;have:=hd.1;rw[ht] at this;rw[hn];simpa using this
  have hlen:∀ v,(DS env o.dst v).length=n:=by
   intro v;unfold DS;split <;> simp[hn]
  simp only[HN,KC] at h
  simp only[IC]
  unfold sgo at h
  split at h
  ·rename_i hw
   rw[VE hf hw]
   exact⟨AFi hf h.1,AIn hf (fun d m1 hk=>ih _ _ _ _ (hlen d) (hf.sput hdst) hd.2 hk) h.2⟩
  ·rename_i hw
   rw[VE hf hw]
   exact ih _ _ _ _ (hlen _) (hf.sput hdst) hd.2 h
  ·exact h.elim
theorem WOp.mono {op:Op} {env:List AV} {m:Mem} {early:Prop} {K K':AV→Mem→Prop} (hk:∀ d m1,K d m1→K' d m1) (h:WOp P op env m early K):WOp P op env m early K':=by
 unfold WOp at h ⊢
 split at h
 ·split at h
  ·obtain⟨r,m1,h3,h4,h5⟩:=h
   exact⟨r,m1,h3,h4,hk _ _ h5⟩
  ·exact h.elim
 ·split at h
  ·exact hk _ _ h
  ·exact h.elim
theorem IC.mono {ops:Array Oper} {Q Q':List AV→Mem→Prop} (hq:∀ env m,Q env m→Q' env m):∀ (l:List Oper) (p:Nat × Option (Nat × Nat)) (j:Nat) (env:List AV) (m:Mem),IC P ops p Q j l env m→IC P ops p Q' j l env m:=by
 intro l
 induction l with
 | nil=>intro p j env m h;exact hq _ _ h
 | cons o l ih =>
  intro p j env m h
  simp only[IC] at h ⊢
  split at h
  ·exact⟨h.1,h.2.mono fun d m1 h=>ih _ _ _ _ h⟩
  ·exact ih _ _ _ _ h
  ·exact h.elim
theorem WC.mono:∀ {c:Code} {Q Q':Exit→List AV→Mem→Prop} {env:List AV} {m:Mem},(∀ e env m,Q e env m→Q' e env m)→WC P lo c Q env m→WC P lo c Q' env m:=by
 intro c
 induction c with
 | skip=>intro Q Q' env m hq h;exact hq _ _ _ h
 | exit id=>intro Q Q' env m hq h;exact hq _ _ _ h
 | ret=>intro Q Q' env m hq h;exact hq _ _ _ h
 | seq a b iha ihb =>
  intro Q Q' env m hq h
  refine iha (fun e env m he=>?_) h
  cases e with
  | normal=>exact ihb hq he
  | _=>exact hq _ _ _ he
 | cond c a b iha ihb =>
  intro Q Q' env m hq h
  simp only[WC] at h ⊢
  split at h
  ·split at h
   ·rename_i ht;exact iha hq h
   ·rename_i ht;exact ihb hq h
   ·exact h.elim
  ·exact h.elim
 | block id c ih=>intro Q Q' env m hq h;exact ih (fun e env m he=>hq _ _ _ he) h
 | scope c ih=>intro Q Q' env m hq h;exact ih (fun e env m he=>⟨he.1,hq _ _ _ he.2⟩) h
 | label l=>intro Q Q' env m hq h;exact hq _ _ _ h
 | loop c ih =>
  intro Q Q' env m hq h
  obtain⟨e,env',m',h1,h2⟩:=h
  exact⟨e,env',m',h1,hq _ _ _ h2⟩
 | region id ops draw=>intro Q Q' env m hq h;exact IC.mono (fun env m h=>hq _ _ _ h) _ _ _ _ _ h
 | rangeFunc g ps a b iha ihb =>
  intro Q Q' env m hq h
  obtain⟨e,env',m',h1,h2⟩:=h
  exact⟨e,env',m',h1,hq _ _ _ h2⟩
 | _=>intro Q Q' env m hq h;exact h.elim
theorem SC.wc:∀ {c:Code} {k:Nat} {Q:Exit→CM→Mem→Prop} {e:CM} {env:List AV} {m:Mem},env.length=BN P f→ET e env→okD (BN P f) c=true→Hg (Cd P f) c=true→(∀ i,i<BH c→(At c)[i]?=(At (Cd P f))[k+i]?)→SC P f lo (Dk k c) Q e m→WC P lo c (fun x=>WK (BN P f) (Q x)) env m:=by
 intro c
 induction c with
 | skip=>intro k Q e env m hn hf hd hg hp h;exact⟨hn,e,hf,h⟩
 | exit id=>intro k Q e env m hn hf hd hg hp h;exact⟨hn,e,hf,h⟩
 | ret=>intro k Q e env m hn hf hd hg hp h;exact⟨hn,e,hf,h⟩
 | seq a b iha ihb =>
  intro k Q e env m hn hf hd hg hp h
  simp only[okD,Bool.and_eq_true] at hd
  simp only[Hg,Bool.and_eq_true] at hg
  have hla:=Eh a
  have h1:=iha (k:=k) hn hf hd.1 hg.1 (fun i hi=>by
   have:=hp i (by simp[BH];omega)
   simp only[At] at this
   rwa [List.getElem?_append_left (by omega)] at this) h
  simp only[WC]
  refine WC.mono (fun x env m hx=>?_) h1
  obtain⟨hn,e,hf,hx⟩:=hx
  cases x with
  | normal =>
   refine ihb (k:=k+BH a) hn hf hd.2 hg.2 (fun i hi=>?_) hx
   have:=hp (BH a+i) (by simp[BH];omega)
   simp only[At] at this
   rw[List.getElem?_append_right (by omega),hla] at this
   rw[show BH a+i - BH a=i from by omega] at this
   rw[this];congr 1;omega
  | _=>exact⟨hn,e,hf,hx⟩
 | cond c a b iha ihb =>
  intro k Q e env m hn hf hd hg hp h
  simp only[okD,Bool.and_eq_true] at hd
  simp only[Hg,Bool.and_eq_true] at hg
  have hla:=Eh a
  cases c with
  | tmp t =>
   simp only[Dk,SC] at h
   simp only[WC]
   cases ht:GF e t with
   | none=>rw[ht] at h;exact h.elim
   | some v =>
    rw[hf t v ht]
    rw[ht] at h
    unfold ABm at h
    split at h
    ·rename_i heq
     injection heq with heq
     subst heq
     refine iha (k:=k) hn hf hd.1 hg.1 (fun i hi=>?_) h
     have:=hp i (by simp[BH];omega)
     simp only[At] at this
     rwa [List.getElem?_append_left (by omega)] at this
    ·rename_i heq
     injection heq with heq
     subst heq
     refine ihb (k:=k+BH a) hn hf hd.2 hg.2 (fun i hi=>?_) h
     have:=hp (BH a+i) (by simp[BH];omega)
     simp only[At] at this
     rw[List.getElem?_append_right (by omega),hla] at this
     rw[show BH a+i - BH a=i from by omega] at this
     rw[this];congr 1;omega
    ·exact h.elim
  | _=>exact h.elim
 | block id c ih =>
  intro k Q e env m hn hf hd hg hp h
  exact ih (k:=k) hn hf hd hg (fun i hi=>hp i hi) h
 | scope c ih =>
  intro k Q e env m hn hf hd hg hp h
  show WC P lo c (fun x env m=>Qj x=true∧WK (BN P f) (Q x) env m) env m
  exact WC.mono (fun x env m ⟨hn,e,hf,hj,hx⟩=>⟨hj,hn,e,hf,hx⟩) (ih (k:=k) hn hf hd hg (fun i hi=>hp i hi) h)
 | label l=>intro k Q e env m hn hf hd hg hp h;exact⟨hn,e,hf,h⟩
 | loop c ih =>
  intro k Q e env m hn hf hd hg hp h
  have h0:=hp 0 (by simp[BH])
  simp only[At,List.getElem?_cons_zero,Nat.add_zero] at h0
  have e0:Bm P f k=c:=by simp[Bm,← h0]
  have h1:=h env hn hf
  rw[e0] at h1
  exact h1
 | region id ops draw =>
  intro k Q e env m hn hf hd hg hp h
  cases draw with
  | false=>exact WZ _ _ _ _ _ hn hf hd h
  | true =>
   simp only[Hg,decide_eq_true_eq] at hg
   have e1:rp P f id=UC ops true:=by simp[rp,hg]
   have h1:KC P (rp P f id) (Q .normal) 0 (HN ops ops.toList) e m:=h
   rw[e1] at h1
   exact WZ _ _ _ _ _ hn hf hd h1
 | rangeFunc g ps a b iha ihb =>
  intro k Q e env m hn hf hd hg hp h
  have h0:=hp 0 (by simp[BH])
  have h1:=hp (BH a+1) (by simp[BH];omega)
  simp only[At,List.getElem?_cons_zero,Nat.add_zero,List.getElem?_cons_succ] at h0 h1
  rw[List.getElem?_append_right (by rw[Eh];exact Nat.le_refl _),Eh,Nat.sub_self,List.getElem?_cons_zero] at h1
  have e0:Bm P f k=a:=by simp[Bm,← h0]
  have e1:Bm P f (k+1+BH a)=b:=by rw[show k+(BH a+1)=k+1+BH a from by omega] at h1;simp[Bm,← h1]
  have h2:=h env hn hf
  rw[e0,e1] at h2
  exact h2
 | _=>intro k Q e env m hn hf hd hg hp h;exact h.elim
theorem Gy.weaken {k:Nat} {Q:Exit→CM→Mem→Prop} {e e':CM} {m:Mem} (hs:∀ p∈e',GF e p.1=some p.2) (h:Gy P f lo k Q e' m):Gy P f lo k Q e m:=fun env hn hf=>h env hn (hf.sub (SQ hs))
def Bl (fn:Func):Code:=fn.body.getD .skip
def Er (fn:Func) (k:Nat):Code:=((At (Bl fn))[k]?).getD .skip
def MI (fn:Func) (k:Nat):Bool:=decide (k<BH (Bl fn))&&FA (Er fn k)&&okD fn.ntmps (Er fn k)&&Hg (Bl fn) (Er fn k)
theorem Gy.step {fn:Func} (hmix:P.follows .mixedOrders=true) (hf:P.funcs[f]?=some fn) {k:Nat} {Q:Exit→CM→Mem→Prop} {e:CM} {m:Mem} (hd:MI fn k=true)
  (h:SC P f lo (Dk (k+1) (Er fn k)) (Ov (Gy P f lo k Q) Q) e m):Gy P f lo k Q e m:=by
 intro env hn hfit
 simp only[MI,Bool.and_eq_true,decide_eq_true_eq] at hd
 have hb:Cd P f=Bl fn:=by simp[Cd,Bl,hf]
 have e1:Bm P f k=Er fn k:=by simp[Bm,Er,hb]
 have e2:fn.ntmps=BN P f:=by simp[BN,hf]
 rw[← e1,e2,← hb] at hd
 rw[← e1] at h
 have h0:(At (Cd P f))[k]?=some (Bm P f k):=by
  have h1:k<(At (Cd P f)).length:=by rw[Eh];exact hd.1.1.1
  simp[Bm,List.getElem?_eq_getElem h1]
 refine RN.step hmix hd.1.1.2 (WC.mono (fun x env m hx=>?_) (SC.wc hn hfit hd.1.2 hd.2 (fun i hi=>KB h0 i hi) h))
 obtain⟨hn,e,hf,hx⟩:=hx
 cases x with
 | normal=>exact hx env hn hf
 | _=>exact⟨hn,e,hf,hx⟩
def MV (fn : Func) : Bool := fn.body.isSome && !(fn.name == "runtime.NumGoroutine") && FA (Bl fn) && okD fn.ntmps (Bl fn) && Hg (Bl fn) (Bl fn)
def Lt (P:Program) (env:CM) (m:Mem):ResultVar→Option AV
 | .tmp t=>GF env t
 | .cell a t=>(GF env a).bind fun p=>match p with
  | .ptr l o=>Fo P m t (.ptr l o)
  | _=>none
def YF (P:Program) (rs:List ResultVar) (K:AV→Mem→Prop):Exit→CM→Mem→Prop
 | .ret,env,m | .normal,env,m=>Js ((rs.mapM (Lt P env m)).map FJ) fun r=>K r.stripR m
 | _,_,_=>False
theorem ABF {e:CM} {env:List AV} (hf:ET e env) {m:Mem} {r:ResultVar}:∀ a,Lt P e m r=some a→Ej P env m r=some a:=by
 intro a h
 cases r with
 | tmp t=>exact hf _ _ h
 | cell a t=>exact EW (fun a h=>hf _ a h) (fun _ h=>h) h
theorem Ft.of_slim {fn:Func} {args:List AV} {m:Mem} {K:AV→Mem→Prop} (hmix:P.follows .mixedOrders=true) (hf:P.funcs[f]?=some fn) (hok:MV fn=true) (ha:(decide (args.length≤fn.ntmps))=true)
  (h:SC P f none (Dk 0 (Bl fn)) (YF P fn.results.toList K) (RS 0 args) m):Ft P f args m K:=by
 simp only[MV,Bool.and_eq_true,Bool.not_eq_true'] at hok
 obtain⟨⟨⟨⟨h1,h2⟩,h3⟩,h4⟩,h5⟩:=hok
 simp only[decide_eq_true_eq] at ha
 cases hbb:fn.body with
 | none=>rw[hbb] at h1;cases h1
 | some c =>
  have e:Bl fn=c:=by simp[Bl,hbb]
  have e2:Cd P f=c:=by simp[Cd,hf,hbb]
  have e3:fn.ntmps=BN P f:=by simp[BN,hf]
  rw[e] at h h3 h4 h5
  rw[e3] at h4 ha
  refine Ft.of_body hmix hf hbb h2 h3 (WC.mono (fun x env m hx=>?_) (SC.wc (f:=f) (by rw[← e3] at ha ⊢;simp;omega) (ET.args args _) h4 (by rw[e2];exact h5) (fun i hi=>by rw[e2,Nat.zero_add]) h))
  obtain⟨hn,e,hfit,hx⟩:=hx
  unfold YF at hx
  unfold AKR Gc
  have key:∀ K':AV→Prop,Js ((fn.results.toList.mapM (Lt P e m)).map FJ) K'→Js ((fn.results.toList.mapM (Ej P env m)).map FJ) K':=by
   intro K' hk
   unfold Js at hk
   split at hk
   ·rename_i r hr
    rw[Kb (NA (fun x a h=>ABF hfit a h)) hr];exact hk
   ·exact hk.elim
  cases x <;> simp only[AGl] <;> first | exact hx.elim | (refine⟨by simp,?_⟩;have:=key _ hx;unfold Js at this;exact this)
theorem Gy.induct {fn:Func} {k:Nat} {Q:Exit→CM→Mem→Prop} {env e0:CM} {m:Mem} (hmix:P.follows .mixedOrders=true) (hf:P.funcs[f]?=some fn) (hd:MI fn k=true)
  (I:Nat→CM→Mem→Prop) (n:Nat) (h0:I n e0 m) (hs:∀ p∈e0,GF env p.1=some p.2)
  (step:∀ n env m,I n env m→(∀ n' env' e' m',n'<n→I n' e' m'→(∀ p∈e',GF env' p.1=some p.2)→Gy P f lo k Q env' m')→SC P f lo (Dk (k+1) (Er fn k)) (Ov (Gy P f lo k Q) Q) env m):Gy P f lo k Q env m:=by
 refine Gy.weaken hs ?_
 clear hs
 induction n using Nat.strongRecOn generalizing e0 m with
 | _ n ih=>exact Gy.step hmix hf hd (step n e0 m h0 fun n' env' e' m' h1 h2 h3=>.weaken h3 (ih n' h1 h2))
end
def ACG (P:Program) (p:Nat × Option (Nat × Nat)) (Q:CM→Mem→Prop) (k:Nat) (l:List Fc) (env:CM) (dst:Option Tmp) (d:AV) (m:Mem):Prop:=KC P p Q (k+1) l (sput env dst d) m
def SGo (P:Program) (p:Nat × Option (Nat × Nat)) (Q:CM→Mem→Prop) (k:Nat) (o:Fc) (l:List Fc) (env:CM) (m:Mem) (w:Option Bool):Prop:=sgo w (MU (KO p k o.op (Cv env)) (SOp P o.op env m (k<p.1) (ACG P p Q k l env o.dst))) (KC P p Q (k+1) l (sput env o.dst .undef) m)
def ADf (m:Mem) (e:Prop) (K:AV→Mem→Prop) (r:AV) (m1:Mem):Prop:=(e→Ext m m1)∧K r m1
def Xz (P:Program) (f:FuncId) (lo:Option Nat) (a b:ID) (Q:Exit→CM→Mem→Prop) (env:CM) (m:Mem) (x:Option AV):Prop:=ABm (SC P f lo a Q env m) (SC P f lo b Q env m) x
def ADk (id:Nat) (Q:Exit→CM→Mem→Prop) (e:Exit) (env:CM) (m:Mem):Prop:=Q (KS id e) env m
def AGO (K:AV→Mem→Prop) (m:Mem) (r:AV):Prop:=K r.stripR m
section
variable {P:Program} {f:FuncId} {lo:Option Nat} {p:Nat × Option (Nat × Nat)} {k:Nat} {Q:CM→Mem→Prop} {R:Exit→CM→Mem→Prop} {o:Fc} {l:List Fc} {env:CM} {m m1:Mem} {a b:ID} {K:AV→Mem→Prop} {d fv:AV} {e:Prop} {as_:List AV} {dst:Option Tmp}
theorem AF9:KC P p Q k [] env m=Q env m:=rfl
theorem ADA:KC P p Q k (o :: l) env m=SGo P p Q k o l env m (Nq env o):=rfl
theorem AEi:ACG P p Q k l env dst d m=KC P p Q (k+1) l (sput env dst d) m:=rfl
theorem ST {X:Prop}:MU true X=X:=propext ⟨fun h=>h.2,fun h=>⟨rfl,h⟩⟩
theorem AFq {n:Nat}:SGo P (n,none) Q k o l env m (some true)=SOp P o.op env m (k<n) (ACG P (n,none) Q k l env o.dst):=ST
theorem AE2:SGo P p Q k o l env m (some false)=KC P p Q (k+1) l (sput env o.dst .undef) m:=rfl
theorem ACF:ACa P (some fv) (some as_) m e K=HL P fv (as_.map AV.strip) m (ADf m e K):=rfl
theorem ADo:ZD (some (d,m1)) K=K d m1:=rfl
theorem AJ1:SC P f lo (.seq a b) R env m=SC P f lo a (Ov (SC P f lo b R) R) env m:=rfl
theorem AI9 {t:Tmp}:SC P f lo (.cond t a b) R env m=Xz P f lo a b R env m (GF env t):=rfl
theorem AGA {id:Nat}:SC P f lo (.block id a) R env m=SC P f lo a (ADk id R) env m:=rfl
theorem AH9:SC P f lo .skip R env m=R .normal env m:=rfl
theorem AIc {id:Nat}:SC P f lo (.exit id) R env m=R (.exit id) env m:=rfl
theorem ALA:SC P f lo .ret R env m=R .ret env m:=rfl
theorem AII {i:Nat}:SC P f lo (.loop i) R env m=Gy P f lo i R env m:=rfl
theorem ADp {ops:List Fc}:SC P f lo (.region none ops) R env m=KC P (0,none) (R .normal) 0 ops env m:=rfl
theorem AGr {g:Operand} {ps:Array Tmp} {i j:Nat}:SC P f lo (.range g ps i j) R env m=Pz P f lo g ps i j R env m:=rfl
theorem ZI {X:CM→Mem→Prop}:Ov X R .normal env m=X env m:=rfl
theorem AEv {X:CM→Mem→Prop}:Ov X R .ret env m=R .ret env m:=rfl
theorem ACc {X:CM→Mem→Prop} {id:Nat}:Ov X R (.exit id) env m=R (.exit id) env m:=rfl
theorem ABa {id:Nat} {x:Exit}:ADk id R x env m=R (KS id x) env m:=rfl
theorem AB6:Xz P f lo a b R env m (some (.atom (.bool true)))=SC P f lo a R env m:=rfl
theorem AAa:Xz P f lo a b R env m (some (.atom (.bool false)))=SC P f lo b R env m:=rfl
theorem Wn {p:Prop} [Decidable p] (h1:p→SC P f lo a R env m) (h2:¬ p→SC P f lo b R env m):Xz P f lo a b R env m (some (.atom (.bool (decide p)))):=by
 by_cases h:p
 ·rw[decide_eq_true h];exact h1 h
 ·rw[decide_eq_false h];exact h2 h
theorem AE6 {rs:List ResultVar}:YF P rs K .ret env m=Js ((rs.mapM (Lt P env m)).map FJ) (AGO K m):=rfl
theorem Zi {rs:List ResultVar}:YF P rs K .normal env m=Js ((rs.mapM (Lt P env m)).map FJ) (AGO K m):=rfl
theorem Yw {K:AV→Prop}:Js (some d) K=K d:=rfl
theorem AGF:AGO K m d=K d.stripR m:=rfl
end
end
section
inductive Bo:AV→Prop
 | atom (v:Value):Bo (.atom v)
 | slice (own:Own) (es:List AV) (ho:∀ id,own≠.row id) (h:∀ e∈es,∀ c∈e.cells,Bo c):Bo (.slice own es)
 | agg (cs:List AV) (h:∀ c∈cs,Bo c):Bo (.agg cs)
 | tuple (cs:List AV) (h:∀ c∈cs,Bo c):Bo (.tuple cs)
 | func (f:FuncId) (first cap:List AV) (h1:∀ c∈first,Bo c) (h2:∀ c∈cap,Bo c):Bo (.func f first cap)
 | iface (t:TypeId) (x:AV) (h:Bo x):Bo (.iface t x)
inductive Frz (m:Mem):AV→AV→Prop
 | atom (v:Value):Frz m (.atom v) (.atom v)
 | slice (own own':Own) (es es':List AV) (ho:own'=.foreign∨(own=.full∧own'=.full)) (hl:es'.length=es.length) (hs:∀ (i:Nat) (e e':AV),es[i]?=some e→es'[i]?=some e'→e'.cells.length=e.cells.length)
   (hc:∀ (i j:Nat) (e e' c c':AV),es[i]?=some e→es'[i]?=some e'→e.cells[j]?=some c→e'.cells[j]?=some c'→Frz m c c'):Frz m (.slice own es) (.slice own' es')
 | vec (id off len sz n:Nat) (k:Cap) (cs es':List AV) (hr:m.rows[id]?=some (some (n,cs))) (hl:es'.length=len) (hfit:off+len * sz≤cs.length) (hs:∀ e∈es',e.cells.length=sz)
   (hc:∀ (i j:Nat) (e' c c':AV),es'[i]?=some e'→cs[off+(i * sz+j)]?=some c→e'.cells[j]?=some c'→Frz m c c'):Frz m (.vec id off len sz k) (.slice .foreign es')
 | agg (cs cs':List AV) (hl:cs'.length=cs.length) (hc:∀ (j:Nat) (c c':AV),cs[j]?=some c→cs'[j]?=some c'→Frz m c c'):Frz m (.agg cs) (.agg cs')
 | tuple (cs cs':List AV) (hl:cs'.length=cs.length) (hc:∀ (j:Nat) (c c':AV),cs[j]?=some c→cs'[j]?=some c'→Frz m c c'):Frz m (.tuple cs) (.tuple cs')
 | func (f:FuncId) (first cap first' cap':List AV) (hl1:first'.length=first.length) (hl2:cap'.length=cap.length) (h1:∀ (j:Nat) (c c':AV),first[j]?=some c→first'[j]?=some c'→Frz m c c')
   (h2:∀ (j:Nat) (c c':AV),cap[j]?=some c→cap'[j]?=some c'→Frz m c c'):Frz m (.func f first cap) (.func f first' cap')
 | iface (t:TypeId) (x x':AV) (h:Frz m x x'):Frz m (.iface t x) (.iface t x')
theorem Frz.one {m:Mem} {a a':AV} (h:Frz m a a'):a'.one=a.one:=by cases h <;> rfl
theorem Bo.frz {m:Mem} {a:AV} (h:Bo a):Frz m a a:=by
 induction h with
 | atom v=>exact .atom v
 | slice own es ho h ih =>
  refine .slice own own es es ?_ rfl (fun i e e' h1 h2=>by rw[h1] at h2;injection h2 with h2;subst h2;rfl) (fun i j e e' c c' h1 h2 h3 h4=>?_)
  ·cases own with
   | foreign=>exact .inl rfl
   | full=>exact .inr ⟨rfl,rfl⟩
   | row id=>exact absurd rfl (ho id)
  ·rw[h1] at h2;injection h2 with h2;subst h2
   rw[h3] at h4;injection h4 with h4;subst h4
   exact ih e (List.mem_of_getElem? h1) c (List.mem_of_getElem? h3)
 | agg cs h ih=>exact .agg cs cs rfl (fun j c c' h1 h2=>by rw[h1] at h2;injection h2 with h2;subst h2;exact ih c (List.mem_of_getElem? h1))
 | tuple cs h ih=>exact .tuple cs cs rfl (fun j c c' h1 h2=>by rw[h1] at h2;injection h2 with h2;subst h2;exact ih c (List.mem_of_getElem? h1))
 | func f first cap h1 h2 ih1 ih2 =>
  exact .func f first cap first cap rfl rfl (fun j c c' h1 h2=>by rw[h1] at h2;injection h2 with h2;subst h2;exact ih1 c (List.mem_of_getElem? h1)) (fun j c c' h1 h2=>by rw[h1] at h2;injection h2 with h2;subst h2;exact ih2 c (List.mem_of_getElem? h1))
 | iface t x h ih=>exact .iface t x x ih
theorem Frz.mk {m:Mem} {own:Own} {es:List AV} (h:∀ e∈es,∀ c∈e.cells,Bo c):Frz m (.slice own es) (.slice .foreign es) :=
 .slice own .foreign es es (.inl rfl) rfl (fun i e e' h1 h2=>by rw[h1] at h2;injection h2 with h2;subst h2;rfl) (fun i j e e' c c' h1 h2 h3 h4=>by
  rw[h1] at h2;injection h2 with h2;subst h2
  rw[h3] at h4;injection h4 with h4;subst h4
  exact(h e (List.mem_of_getElem? h1) c (List.mem_of_getElem? h3)).frz)
structure Gone (g' g:Gh) (m:Mem):Prop where
 imm:∀ b n,Imm g' b n→Imm g b n
 fresh:∀ id b n,id<m.rows.length→g'.row id=some (some b)→Imm g b n
theorem Frz.rep {g g':Gh} {m:Mem} {w:World} (hg:Gone g' g m) (hm:Aa g' m w) {a a':AV} (h:Frz m a a'):∀ {v:Value},Rep g' w a v→Rep g w a' v:=by
 induction h with
 | atom v=>intro v hr;rw[hr.atom_inv];exact .atom _ (by generalize hx:AV.atom v=x at hr;cases hr <;> cases hx;assumption)
 | slice own own' es es' ho hl hs hc ih =>
  intro v hr
  rcases hr.slice_inv with⟨rfl,a0,cap0,rfl,hf0,hn⟩|⟨b,o,cap,sz,rfl,hz,hsz,himm,hcell,hcap,hown⟩
  ·have:es'=[]:=List.eq_nil_of_length_eq_zero (by simpa using hl)
   subst this
   exact .nil _ _ _ (fun id e=>by rcases ho with rfl | ⟨_,rfl⟩ <;> cases e) (fun e=>by
    rcases ho with rfl | ⟨rfl,rfl⟩
    ·cases e
    ·exact hf0 rfl)
  ·rw[← hl]
   have hmem:∀ (i:Nat) (e':AV),es'[i]?=some e'→∃ e,es[i]?=some e:=fun i e' h=>⟨_,List.getElem?_eq_getElem (by rw[← hl];exact(List.getElem?_eq_some_iff.1 h).1)⟩
   refine Rep.slice_mk hz (fun e' he'=>?_) (fun hne=>?_) (fun i e' hi=>?_) (by omega) ?_
   ·obtain⟨i,hi,hie⟩:=List.getElem_of_mem he'
    have h1:es'[i]?=some e':=by rw[← hie];exact List.getElem?_eq_getElem hi
    obtain⟨e,he⟩:=hmem i e' h1
    rw[hs i e e' he h1];exact hsz e (List.mem_of_getElem? he)
   ·rw[hl];exact hg.imm _ _ (himm (by rintro rfl;simp at hl;exact hne hl))
   ·obtain⟨e,he⟩:=hmem i e' hi
    obtain⟨h1,h2⟩:=hcell i e he
    have hcl:=hs i e e' he hi
    have hone:∀ (j:Nat) (c':AV),e'.cells[j]?=some c'→∃ c,e.cells[j]?=some c:=fun j c' h=>⟨_,List.getElem?_eq_getElem (by rw[← hcl];exact(List.getElem?_eq_some_iff.1 h).1)⟩
    refine⟨fun c' hc'=>?_,fun j c' hj=>?_⟩
    ·obtain⟨j,hj,hje⟩:=List.getElem_of_mem hc'
     have h3:e'.cells[j]?=some c':=by rw[← hje];exact List.getElem?_eq_getElem hj
     obtain⟨c,hcc⟩:=hone j c' h3
     rw[(hc i j e e' c c' he hi hcc h3).one];exact h1 c (List.mem_of_getElem? hcc)
    ·obtain⟨c,hcc⟩:=hone j c' hj
     obtain⟨u,h3,h4⟩:=h2 j c hcc
     exact⟨u,h3,ih i j e e' c c' he hi hcc hj h4⟩
   ·rcases ho with rfl | ⟨rfl,rfl⟩
    ·trivial
    ·simp only[Ig] at hown ⊢;omega
 | vec id off len sz n k cs es' hr' hl hfit hs hc ih =>
  intro v hr
  obtain⟨a,cap,rfl,hspot,hz,hcap,hf,hgr,hadr⟩:=hr.vec_inv
  obtain⟨b,hb,hw,arr,t,harr,hal,hone,hrep,hcell⟩:=hm.rowAt hr' hgr
  rw[(hadr b hb).1,← hl]
  have hlt:id<m.rows.length:=(List.getElem?_eq_some_iff.1 hr').1
  have hin:∀ (i j:Nat) (e' c':AV),es'[i]?=some e'→e'.cells[j]?=some c'→∃ c,cs[off+(i * sz+j)]?=some c:=by
   intro i j e' c' h1 h2
   have h3:i<len:=by rw[← hl];exact(List.getElem?_eq_some_iff.1 h1).1
   have h4:j<sz:=by rw[← hs e' (List.mem_of_getElem? h1)];exact(List.getElem?_eq_some_iff.1 h2).1
   have:=NI (s:=sz) h3
   exact⟨_,List.getElem?_eq_getElem (by omega)⟩
  refine Rep.slice_mk hz hs (fun _=>hg.fresh id b _ hlt hb) (fun i e' hi=>⟨fun c' hc'=>?_,fun j c' hj=>?_⟩) (by omega) trivial
  ·obtain⟨j,hj,hje⟩:=List.getElem_of_mem hc'
   have h3:e'.cells[j]?=some c':=by rw[← hje];exact List.getElem?_eq_getElem hj
   obtain⟨c,hcc⟩:=hin i j e' c' hi h3
   rw[(hc i j e' c c' hi hcc h3).one];exact hone c (List.mem_of_getElem? hcc)
  ·obtain⟨c,hcc⟩:=hin i j e' c' hi hj
   obtain⟨u,h3,h4⟩:=hcell.2 _ c hcc
   rw[Nat.zero_add] at h3
   exact⟨u,by rw[← h3];congr 2;omega,ih i j e' c c' hi hcc hj h4⟩
 | agg cs cs' hl hc ih =>
  intro v hr
  obtain⟨vs,rfl,⟨h1,h2⟩,h3⟩:=hr.agg_inv
  have hin:∀ (j:Nat) (c':AV),cs'[j]?=some c'→∃ c,cs[j]?=some c:=fun j c' h=>⟨_,List.getElem?_eq_getElem (by rw[← hl];exact(List.getElem?_eq_some_iff.1 h).1)⟩
  refine .agg _ _ (by omega) (fun c' hc'=>?_) (fun j c' v hj hv=>?_)
  ·obtain⟨j,hj,hje⟩:=List.getElem_of_mem hc'
   have h4:cs'[j]?=some c':=by rw[← hje];exact List.getElem?_eq_getElem hj
   obtain⟨c,hcc⟩:=hin j c' h4
   rw[(hc j c c' hcc h4).one];exact h3 c (List.mem_of_getElem? hcc)
  ·obtain⟨c,hcc⟩:=hin j c' hj
   exact ih j c c' hcc hj (h2 j c v hcc hv)
 | tuple cs cs' hl hc ih =>
  intro v hr
  generalize hx:AV.tuple cs=x at hr
  cases hr <;> cases hx
  rename_i vs h1 h2
  have hin:∀ (j:Nat) (c':AV),cs'[j]?=some c'→∃ c,cs[j]?=some c:=fun j c' h=>⟨_,List.getElem?_eq_getElem (by rw[← hl];exact(List.getElem?_eq_some_iff.1 h).1)⟩
  refine .tuple _ _ (by omega) (fun j c' v hj hv=>?_)
  obtain⟨c,hcc⟩:=hin j c' hj
  exact ih j c c' hcc hj (h2 j c v hcc hv)
 | func f first cap first' cap' hl1 hl2 h1 h2 ih1 ih2 =>
  intro v hr
  obtain⟨fs,vs,rfl,⟨a1,a2⟩,b1,b2⟩:=hr.func_inv
  refine .func f _ _ _ _ (by omega) (fun j c' v hj hv=>?_) (by omega) (fun j c' v hj hv=>?_)
  ·have hlt:=(List.getElem?_eq_some_iff.1 hj).1
   exact ih1 j _ c' (List.getElem?_eq_getElem (by omega)) hj (a2 j _ v (List.getElem?_eq_getElem (by omega)) hv)
  ·have hlt:=(List.getElem?_eq_some_iff.1 hj).1
   exact ih2 j _ c' (List.getElem?_eq_getElem (by omega)) hj (b2 j _ v (List.getElem?_eq_getElem (by omega)) hv)
 | iface t x x' h ih =>
  intro v hr
  generalize hx:AV.iface t x=y at hr
  cases hr <;> cases hx
  exact .iface t _ _ (ih (by assumption))
theorem Frz.reps {g g':Gh} {m:Mem} {w:World} (hg:Gone g' g m) (hm:Aa g' m w) {as_ as':List AV} (hl:as'.length=as_.length) (h:∀ (j:Nat) (a a':AV),as_[j]?=some a→as'[j]?=some a'→Frz m a a') {vs:Array Value} (hr:Bi g' w as_ vs):Bi g w as' vs :=
 ⟨by have:=hr.1;omega,fun j a' v ha hv=>by
  have hlt:=(List.getElem?_eq_some_iff.1 ha).1
  exact(h j _ a' (List.getElem?_eq_getElem (by omega)) ha).rep hg hm (hr.2 j _ v (List.getElem?_eq_getElem (by omega)) hv)⟩
theorem Bo.rep {g g':Gh} {w:World} (hg:∀ b n,Imm g' b n→Imm g b n) {a:AV} (h:Bo a):∀ {v:Value},Rep g' w a v→Rep g w a v:=by
 induction h with
 | atom v=>intro v hr;rw[hr.atom_inv];exact .atom _ (by generalize hx:AV.atom v=x at hr;cases hr <;> cases hx;assumption)
 | slice own es ho h ih =>
  intro v hr
  rcases hr.slice_inv with⟨rfl,a0,cap0,rfl,hf0,hn⟩|⟨b,o,cap,sz,rfl,hz,hsz,himm,hcell,hcap,hown⟩
  ·exact .nil _ _ _ hn hf0
  ·refine Rep.slice_mk hz hsz (fun hne=>hg _ _ (himm hne)) (fun i e hi=>?_) hcap ?_
   ·obtain⟨h1,h2⟩:=hcell i e hi
    exact⟨h1,fun j c hj=>let ⟨u,h3,h4⟩:=h2 j c hj;⟨u,h3,ih e (List.mem_of_getElem? hi) c (List.mem_of_getElem? hj) h4⟩⟩
   ·cases own with
    | foreign=>trivial
    | full=>exact hown
    | row id=>exact absurd rfl (ho id)
 | agg cs h ih =>
  intro v hr
  obtain⟨vs,rfl,⟨h1,h2⟩,h3⟩:=hr.agg_inv
  exact .agg _ _ h1 h3 (fun j c v hj hv=>ih c (List.mem_of_getElem? hj) (h2 j c v hj hv))
 | tuple cs h ih =>
  intro v hr
  generalize hx:AV.tuple cs=x at hr
  cases hr <;> cases hx
  rename_i vs h1 h2
  exact .tuple _ _ h1 (fun j c v hj hv=>ih c (List.mem_of_getElem? hj) (h2 j c v hj hv))
 | func f first cap h1 h2 ih1 ih2 =>
  intro v hr
  obtain⟨fs,vs,rfl,⟨a1,a2⟩,b1,b2⟩:=hr.func_inv
  exact .func f _ _ _ _ a1 (fun j c v hj hv=>ih1 c (List.mem_of_getElem? hj) (a2 j c v hj hv)) b1 (fun j c v hj hv=>ih2 c (List.mem_of_getElem? hj) (b2 j c v hj hv))
 | iface t x h ih =>
  intro v hr
  generalize hx:AV.iface t x=y at hr
  cases hr <;> cases hx
  exact .iface t _ _ (ih (by assumption))
def mE (μ:TypeId→Bool):Mem:={ boxes:=[],rows:=[],mode:=μ }
def Gh.up (g:Gh) (k n:Nat):Gh:=⟨fun l=>if l<k then none else g.box (l - k),fun id=>if id<n then none else g.row (id - n),fun id=>g.hw (id - n)⟩
section
variable {P:Program}
theorem AGJ {g:Gh} {m:Mem} {w:World} {μ:TypeId→Bool} (hm:Aa g m w) (k n:Nat):Aa (g.up k n) (mE μ) w:=by
 have hb:∀ l b,(g.up k n).box l=some b→k≤l∧g.box (l - k)=some b:=by
  intro l b h
  simp only[Gh.up] at h
  split at h
  ·cases h
  ·exact⟨by omega,h⟩
 have hr:∀ l b,(g.up k n).row l=some (some b)→n≤l∧g.row (l - n)=some (some b):=by
  intro l b h
  simp only[Gh.up] at h
  split at h
  ·cases h
  ·exact⟨by omega,h⟩
 exact {
  tab:=fun q hq=>let ⟨h1,h3,h4⟩:=hm.tab q hq;⟨h1,fun l e=>h3 _ (hb l _ e).2,fun id e=>h4 _ (hr id _ e).2⟩
  box:=fun l b h=>hm.box _ b (hb l b h).2
  row:=fun l b h=>hm.row _ b (hr l b h).2
  boxOk:=fun l b c _ h=>by simp[mE] at h
  rowCells:=fun l b h=>hm.rowCells _ b (hr l b h).2
  rowLive:=fun l x h=>by simp[mE] at h
  rowOk:=fun l b x cs _ h=>by simp[mE] at h
  boxInj:=fun l l' b h h'=>by
   obtain⟨h1,h2⟩:=hb l b h
   obtain⟨h3,h4⟩:=hb l' b h'
   have:=hm.boxInj _ _ b h2 h4;omega
  rowInj:=fun l l' b h h'=>by
   obtain⟨h1,h2⟩:=hr l b h
   obtain⟨h3,h4⟩:=hr l' b h'
   have:=hm.rowInj _ _ b h2 h4;omega
  apart:=fun l id b h h'=>hm.apart _ _ b (hb l b h).2 (hr id b h').2 }
theorem ALr {g:Gh} {k n b x:Nat}:Imm g b x→Imm (g.up k n) b x:=by
 intro h
 refine⟨fun l hl=>?_,fun id hid=>?_⟩
 ·simp only[Gh.up] at hl
  split at hl
  ·cases hl
  ·exact h.1 _ hl
 ·simp only[Gh.up] at hid ⊢
  split at hid
  ·cases hid
  ·exact h.2 _ hid
def Fn (P:Program) (f:FuncId) (args:List AV) (r:AV):Prop:=∀ m,EB P f args m r m
theorem Fn.of {f:FuncId} {args:List AV} {r0 r:AV} {m1:Mem} {μ:TypeId→Bool} (h:EB P f args (mE μ) r0 m1) (ha:∀ a∈args,Bo a) (hr:Frz m1 r0 r):Fn P f args r:=by
 intro m
 refine⟨h.1,Bx.refl m,fun g w vs _ hm hargs=>?_⟩
 have hm2:=AGJ (μ:=μ) hm m1.boxes.length m1.rows.length
 have hf2:DR (g.up m1.boxes.length m1.rows.length) (mE μ) m1:=⟨fun l _ h2=>by simp[Gh.up,h2],fun l _ h2=>by simp[Gh.up,h2]⟩
 have hargs2:Bi (g.up m1.boxes.length m1.rows.length) w args vs:=⟨hargs.1,fun j a v h1 h2=>(ha a (List.mem_of_getElem? h1)).rep (fun b n=>ALr) (hargs.2 j a v h1 h2)⟩
 refine(h.2.2 _ w vs hf2 hm2 hargs2).mono ?_
 rintro e w' ⟨v,g',rfl,hs,hm1,hv⟩
 have hplain:∀ b,b<w.heap.size→w'.heap[b]?=w.heap[b]?:=fun b hb=>hs.same b hb (fun l h=>by simp[mE] at h) (fun l h=>by simp[mE] at h)
 have hst:As g m g m w w':=As.plain hs.os hs.tape hs.output hs.size hplain
 have hbox:∀ l b,g.box l=some b→g'.box (l+m1.boxes.length)=some b:=fun l b h=>hs.boxUp (by simp[Gh.up,h])
 have hrow:∀ id b,g.row id=some (some b)→g'.row (id+m1.rows.length)=some (some b)∧g'.hw (id+m1.rows.length)=g.hw id:=by
  intro id b h
  obtain⟨h1,h2⟩:=hs.rowOut (id+m1.rows.length) (by omega)
  exact⟨by rw[h1];simp[Gh.up,h],by rw[h2];simp[Gh.up]⟩
 refine⟨v,g,rfl,hst,hm.plain hst hplain,hr.rep ⟨fun b n hi=>⟨fun l hl=>hi.1 _ (hbox l b hl),fun id hid=>?_⟩,fun id b n hid hb=>⟨fun l hl=>?_,fun id' hid'=>?_⟩⟩ hm1 hv⟩
 ·obtain⟨h1,h2⟩:=hrow id b hid
  have:=hi.2 _ h1
  omega
 ·exact hm1.apart _ id b (hbox l b hl) hb
 ·have:=hm1.rowInj _ _ b hb (hrow id' b hid').1
  omega
inductive Kf:AV→Prop
 | atom (v:Value):Kf (.atom v)
 | agg (cs:List AV) (h:∀ c∈cs,Kf c):Kf (.agg cs)
 | tuple (cs:List AV) (h:∀ c∈cs,Kf c):Kf (.tuple cs)
theorem Kf.rep {g g':Gh} {w:World} {a:AV} (h:Kf a):∀ {v:Value},Rep g' w a v→Rep g w a v:=by
 induction h with
 | atom v=>intro v hr;rw[hr.atom_inv];exact .atom _ (by generalize hx:AV.atom v=x at hr;cases hr <;> cases hx;assumption)
 | agg cs h ih =>
  intro v hr
  obtain⟨vs,rfl,⟨h1,h2⟩,h3⟩:=hr.agg_inv
  exact .agg _ _ h1 h3 (fun j c v hj hv=>ih c (List.mem_of_getElem? hj) (h2 j c v hj hv))
 | tuple cs h ih =>
  intro v hr
  generalize hx:AV.tuple cs=x at hr
  cases hr <;> cases hx
  rename_i vs h1 h2
  exact .tuple _ _ h1 (fun j c v hj hv=>ih c (List.mem_of_getElem? hj) (h2 j c v hj hv))
def gE:Gh:=⟨fun _=>none,fun _=>none,fun _=>0⟩
theorem Fn.read {f:FuncId} {args args':List AV} {r:AV} (h:Fn P f args r) (hr:Kf r) {m:Mem} (hl:args.length=args'.length) (ha:∀ (j:Nat) (a a':AV),args'[j]?=some a→args[j]?=some a'→Frz m a a'):EB P f args' m r m:=by
 have h0:=h (mE fun _=>false)
 refine⟨h0.1,Bx.refl m,fun g w vs _ hm hargs=>?_⟩
 have hm2:Aa gE (mE fun _=>false) w:=by constructor <;> first | exact fun q hq=>⟨(hm.tab q hq).1,fun l=>by simp[gE],fun id=>by simp[gE]⟩ | (intros;simp_all [gE,mE])
 have himm:∀ b n,Imm gE b n:=fun b n=>⟨fun l h=>by simp[gE] at h,fun id h=>by simp[gE] at h⟩
 have hargs2:Bi gE w args vs:=Frz.reps ⟨fun b n _=>himm b n,fun id b n _ _=>himm b n⟩ hm hl ha hargs
 refine(h0.2.2 gE w vs ⟨fun _ _ _=>rfl,fun _ _ _=>rfl⟩ hm2 hargs2).mono ?_
 rintro e w' ⟨v,g',rfl,hs,hm1,hv⟩
 have hplain:∀ b,b<w.heap.size→w'.heap[b]?=w.heap[b]?:=fun b hb=>hs.same b hb (fun l h=>by simp[mE] at h) (fun l h=>by simp[mE] at h)
 have hst:As g m g m w w':=As.plain hs.os hs.tape hs.output hs.size hplain
 exact⟨v,g,rfl,hst,hm.plain hst hplain,hr.rep hv⟩
theorem HL.fn {g:FuncId} {args:List AV} {r:AV} {m:Mem} {e:Prop} {K:AV→Mem→Prop} (h:Fn P g args r) (hk:K r m):HL P (.func g [] []) args m (ADf m e K) :=
 ⟨r,m,.of_func (by simpa using h m),fun _=>Ext.refl _,hk⟩
end
end
section
attribute [go_sem ↓] AJ1 AI9 AGA AH9 AIc ALA AII ADp AGr AF9 ADA AEi AFq ST AE2 SOp ADo ACF ZI AEv ACc ABa AB6 AAa AE6 Zi Yw AGF
attribute [go_sem] Dk HN LG KO bne_self_eq_false Nat.reduceBNe BH At Bl Er
attribute [go_sem] sop Cv Nm UU ZF Nq sput GF RS FT aun Lt FJ KS
attribute [go_sem] List.mem_cons List.not_mem_nil forall_eq_or_imp forall_eq or_false
@[go_sem] theorem AMA (k:IntKind) (n:Int):Ez (.int k n)=some (.atom (.int k n)):=rfl
@[go_sem] theorem AJ7 (b:Bool):Ez (.bool b)=some (.atom (.bool b)):=rfl
@[go_sem] theorem AMD:Ez (.slice none 0 0)=some (.slice .full []):=rfl
attribute [go_sem] Option.map_some Option.map_none Option.bind_some Option.bind_none Option.getD_some Option.getD_none Option.pure_def Option.bind_eq_bind
attribute [go_sem] List.getElem?_cons_zero List.getElem?_cons_succ List.mapM_cons List.mapM_nil List.map_cons List.map_nil List.cons_append List.nil_append List.append_nil List.replicate List.length_cons List.length_nil List.getElem?_toArray
attribute [go_sem] Nat.reduceAdd Nat.reduceSub Nat.reduceLT Nat.reduceLeDiff Nat.reduceMul Nat.reduceEqDiff Int.reduceNeg Bool.false_eq_true Bool.true_eq_false if_true if_false ite_true ite_false
attribute [go_sem] bne_self_eq_false amm Ls List.foldlM
attribute [go_sem] Int.natCast_add Int.cast_ofNat_Int Int.reduceEq Int.reduceLT Int.reduceLE Int.reduceBEq Int.reduceBNe Int.reduceAdd Int.reduceSub Int.reduceMul Int.reduceGT Int.reduceGE decide_true decide_false
attribute [go_sem] beq_self_eq_true beq_true beq_false Bool.not_true Bool.not_false false_implies true_implies forall_const true_and and_true eq_self implies_true Nat.add_zero Nat.zero_add
attribute [go_sem] Int.toNat_zero Int.reduceToNat Nat.zero_mul Nat.le_refl
attribute [go_sem] HO Gg FL Ca List.drop_nil List.take_nil List.nil_append List.append_nil Fa Fo MO GH LD MS List.drop_succ_cons List.drop_zero List.take_succ_cons List.take_zero Bool.or_true Bool.true_or Bool.or_false Bool.false_or Bool.and_true Bool.true_and Bool.and_false Bool.false_and
attribute [go_sem] EM Int.natCast_nonneg Int.toNat_natCast List.getElem?_map reduceCtorEq ne_eq not_false_eq_true not_true_eq_false List.length_map and_self
@[go_sem] theorem ALL (P:Program) (xt:TypeId) (k:IntKind) (a b:Int):Bq P .add xt (.atom (.int k a)) (.atom (.int k b))=some (.atom (.int k (k.wrap (a+b)))):=by simp[Bq,Cx]
@[go_sem] theorem AJl (P:Program) (xt:TypeId) (k:IntKind) (a b:Int):Bq P .sub xt (.atom (.int k a)) (.atom (.int k b))=some (.atom (.int k (k.wrap (a - b)))):=by simp[Bq,Cx]
@[go_sem] theorem ALX (P:Program) (xt:TypeId) (k:IntKind) (a b:Int):Bq P .mul xt (.atom (.int k a)) (.atom (.int k b))=some (.atom (.int k (k.wrap (a * b)))):=by simp[Bq,Cx]
@[go_sem] theorem ALk (P:Program) (xt:TypeId) (k:IntKind) (a b:Int):Bq P .and xt (.atom (.int k a)) (.atom (.int k b))=some (.atom (.int k (k.wrap (BitVec.ofInt k.bits a&&&BitVec.ofInt k.bits b).toNat))):=by simp[Bq,Cx]
@[go_sem] theorem AJ6 (P:Program) (xt:TypeId) (k:IntKind) (a b:Int):Bq P .eql xt (.atom (.int k a)) (.atom (.int k b))=some (.bool (a == b)):=by simp[Bq,Cx]
@[go_sem] theorem ALv (P:Program) (xt:TypeId) (k:IntKind) (a b:Int):Bq P .neq xt (.atom (.int k a)) (.atom (.int k b))=some (.bool (a != b)):=by simp[Bq,Cx]
@[go_sem] theorem ALy (P:Program) (xt:TypeId) (k:IntKind) (a b:Int):Bq P .lss xt (.atom (.int k a)) (.atom (.int k b))=some (.bool (decide (a<b))):=by simp[Bq,Cx]
@[go_sem] theorem AKQ (P:Program) (xt:TypeId) (k:IntKind) (a b:Int):Bq P .leq xt (.atom (.int k a)) (.atom (.int k b))=some (.bool (decide (a≤b))):=by simp[Bq,Cx]
@[go_sem] theorem AK4 (P:Program) (xt:TypeId) (k:IntKind) (a b:Int):Bq P .gtr xt (.atom (.int k a)) (.atom (.int k b))=some (.bool (decide (a > b))):=by simp[Bq,Cx]
@[go_sem] theorem ALR (P:Program) (xt:TypeId) (k:IntKind) (a b:Int):Bq P .geq xt (.atom (.int k a)) (.atom (.int k b))=some (.bool (decide (a ≥ b))):=by simp[Bq,Cx]
@[go_sem] theorem AJX (P:Program) (xt:TypeId) (a b:Bool) (h:P.underlying xt=some .bool):Bq P .neq xt (.atom (.bool a)) (.atom (.bool b))=some (.bool (!(a == b))):=by simp[Bq,h]
@[go_sem] theorem AJg (P:Program) (xt:TypeId) (a b:List AV) (h:Kx P xt=false):Bq P .eql xt (.agg a) (.agg b)=(aeq P 9 xt (.agg a) (.agg b)).map AV.bool:=by simp[Bq,h]
@[go_sem] theorem AKg (P:Program) (xt:TypeId) (a b:List AV) (h:Kx P xt=false):Bq P .neq xt (.agg a) (.agg b)=(aeq P 9 xt (.agg a) (.agg b)).map fun b=>AV.bool (!b):=by simp[Bq,h]
attribute [go_sem] aeq Sl
@[go_sem] theorem AV.strip_atom (v:Value):AV.strip (.atom v)=.atom v:=rfl
@[go_sem] theorem AV.strip_func (f:FuncId) (first cap:List AV):AV.strip (.func f first cap)=.func f first cap:=rfl
@[go_sem] theorem AV.strip1_atom (v:Value):AV.strip1 (.atom v)=.atom v:=rfl
@[go_sem] theorem AV.stripR_atom (v:Value):AV.stripR (.atom v)=.atom v:=rfl
@[go_sem] theorem AV.stripR_func (f:FuncId) (first cap:List AV):AV.stripR (.func f first cap)=.func f first cap:=rfl
@[go_sem] theorem AV.strip_slice (o:Own) (es:List AV):AV.strip (.slice o es)=.slice .foreign es:=rfl
@[go_sem] theorem AV.strip1_slice (o:Own) (es:List AV):AV.strip1 (.slice o es)=.slice .foreign es:=rfl
@[go_sem] theorem AV.strip_agg (cs:List AV):AV.strip (.agg cs)=.agg (cs.map AV.strip1):=rfl
@[go_sem] theorem AJY (v:Value):Bj (.atom v)=true:=rfl
@[go_sem] theorem AJW (f:FuncId) (first cap:List AV):Bj (.func f first cap)=true:=rfl
@[go_sem] theorem AJN (o:Own) (es:List AV):Bj (.slice o es)=true:=rfl
@[go_sem] theorem AKd (cs:List AV):Bj (.agg cs)=true:=rfl
@[go_sem] theorem AV.cells_atom (v:Value):AV.cells (.atom v)=[.atom v]:=rfl
@[go_sem] theorem AV.cells_func (f:FuncId) (first cap:List AV):AV.cells (.func f first cap)=[.func f first cap]:=rfl
@[go_sem] theorem AV.cells_slice (o:Own) (es:List AV):AV.cells (.slice o es)=[.slice o es]:=rfl
@[go_sem] theorem AV.cells_agg (cs:List AV):AV.cells (.agg cs)=cs:=rfl
def TX (s len:Nat):Nat→List (Nat × AV)→Bool
 | k,[]=>k == len
 | k,(i,v) :: l=>(i == k)&&(v.cells.length == s)&&Bj v&&TX s len (k+1) l
theorem AFf (s len:Nat):∀ (l:List (Nat × AV)) (k:Nat),TX s len k l=true ↔ k+l.length=len∧l.map (·.1)=List.range' k l.length∧∀ p∈l,p.2.cells.length=s∧Bj p.2=true:=by
 intro l
 induction l with
 | nil=>intro k;simp[TX]
 | cons x l ih =>
  intro k
  obtain⟨i,v⟩:=x
  simp only[TX,Bool.and_eq_true,beq_iff_eq,ih,List.length_cons,List.map_cons,List.range'_succ,List.cons.injEq,List.mem_cons,forall_eq_or_imp]
  constructor
  ·rintro⟨⟨⟨h1,h2⟩,h3⟩,h4,h5,h6⟩;exact⟨by omega,⟨h1,h5⟩,⟨h2,h3⟩,h6⟩
  ·rintro⟨h4,⟨h1,h5⟩,⟨h2,h3⟩,h6⟩;exact⟨⟨⟨h1,h2⟩,h3⟩,by omega,h5,h6⟩
def MH (P:Program) (t:TypeId) (len:Nat) (ps:List (Nat × AV)):Option AV :=
 match Bn P t with
 | some e=>match Av P e with
  | some s=>if 0<s∧len * s≤16777216∧(DE P e).map List.length=some s∧TX s len 0 ps=true then some (.slice .full (ps.map fun p=>p.2.strip)) else none
  | none=>none
 | none=>none
@[go_sem] theorem AFl (P:Program) (t:TypeId) (len:Nat) (ps:List (Nat × AV)):DI P t len ps=MH P t len ps:=by
 have h:(fun s=>TX s len 0 ps)=fun s=>decide (ps.map (·.1)=List.range len∧(∀ p∈ps,p.2.cells.length=s∧Bj p.2=true)):=by
  funext s
  rw[Bool.eq_iff_iff,AFf,decide_eq_true_iff]
  simp only[Nat.zero_add]
  constructor
  ·rintro⟨h1,h2,h3⟩;subst h1;exact⟨by rw[h2,List.range_eq_range'],h3⟩
  ·rintro⟨h2,h3⟩
   have h1:ps.length=len:=by simpa using congrArg List.length h2
   exact⟨h1,by rw[h2,h1,List.range_eq_range'],h3⟩
 unfold DI MH
 cases Bn P t with
 | none=>rfl
 | some e =>
  dsimp only
  cases Av P e with
  | none=>rfl
  | some s =>
   have:=congrFun h s
   simp only[this,decide_eq_true_eq,show (2:Nat) ^ 24=16777216 from rfl]
attribute [go_sem] MH TX
@[go_sem] theorem AMC (l:List Value):Ez (.agg l.toArray)=(Hi l).bind fun cs=>if cs.all AV.one=true then some (.agg cs) else none:=rfl
attribute [go_sem] Hi Ha Nl AV.one List.all_cons List.all_nil
@[go_sem] theorem Mem.push_mk (b:List Ck) (r:List (Option (Nat × List AV))) (μ:TypeId→Bool) (c:Ck):Mem.push ⟨b,r,μ⟩ c=⟨b++[c],r,μ⟩:=rfl
@[go_sem] theorem Mem.set_mk (b:List Ck) (r:List (Option (Nat × List AV))) (μ:TypeId→Bool) (l:Nat) (c:Ck):Mem.set ⟨b,r,μ⟩ l c=⟨b.set l c,r,μ⟩:=rfl
@[go_sem] theorem Mem.setRow_mk (b:List Ck) (r:List (Option (Nat × List AV))) (μ:TypeId→Bool) (l n:Nat) (cs:List AV):Mem.setRow ⟨b,r,μ⟩ l n cs=⟨b,r.set l (some (n,cs)),μ⟩:=rfl
attribute [go_sem] mE List.append_assoc List.set_cons_succ List.set_cons_zero List.length_append Nat.zero_add
@[go_sem] theorem APK {α:Type} (X Y:List α) (a:α):(X++(a :: Y))[X.length]?=some a:=by
 rw[List.getElem?_append_right (by omega),show X.length - X.length=0 from by omega];rfl
@[go_sem] theorem APM {α:Type} (X Y:List α) (a v:α):(X++(a :: Y)).set (X.length) v=X++(v :: Y):=by
 rw[List.set_append_right _ _ (by omega),show X.length - X.length=0 from by omega];rfl
@[go_sem] theorem APZ {α:Type} (X Y:List α) (a b:α):(X++(a :: b :: Y))[X.length+1]?=some b:=by
 rw[List.getElem?_append_right (by omega),show X.length+1 - X.length=1 from by omega];rfl
@[go_sem] theorem APg {α:Type} (X Y:List α) (a b v:α):(X++(a :: b :: Y)).set (X.length+1) v=X++(a :: v :: Y):=by
 rw[List.set_append_right _ _ (by omega),show X.length+1 - X.length=1 from by omega];rfl
theorem AKB {n:Int} (h1:-9223372036854775808≤n) (h2:n≤9223372036854775807):IntKind.i64.wrap n=n:=by simp[IntKind.wrap,IntKind.bits,IntKind.signed];omega
theorem ANg {n:Int} (h1:0≤n) (h2:n≤18446744073709551615):IntKind.u64.wrap n=n:=by simp[IntKind.wrap,IntKind.bits,IntKind.signed];omega
end
section
def ZW (R:List (Option (Nat × List AV))) (own:Own) (n s:Nat):Prop:=own=.full∨∃ id cs,own=.row id∧R[id]?=some (some (n * s,cs))∧n≠0
def ABZ (own:Own) (R R':List (Option (Nat × List AV))):Prop:=∀ id,own≠.row id→∀ x,R[id]?=some x→R'[id]?=some x
theorem AIM {b:List Ck} {R:List (Option (Nat × List AV))} {μ:TypeId→Bool} {id n:Nat} {cs:List AV} (h:R[id]?=some (some (n,cs))):ZC ⟨b,R,μ⟩ id=some n:=by
 simp[ZC,h]
theorem Ti {P:Program} {B:List Ck} {R:List (Option (Nat × List AV))} {μ:TypeId→Bool} {t xt el el' s b:Nat} {own o:Own} {es ys:List AV} (h1:Bn P t=some el) (h2:Bn P xt=some el') (h3:Av P el=some s) (h4:ER P el=some b) (h5:Dh P el=some s) (hμ:μ el=false)
  (hc:(decide (0<s)&&decide (0<b))=true) (hm:ZW R own es.length s) (hlen:(es.length+ys.length) * b≤140737488355328) (hes:∀ e∈es,e.cells.length=s) (hys:∀ e∈ys,e.cells.length=s) :
  ∃ own' R',EK P ⟨B,R,μ⟩ t xt (.slice own es) (.slice o ys)=some (.slice own' (es++ys),⟨B,R',μ⟩)∧ZW R' own' (es++ys).length s∧ABZ own R R'∧(own'=own∨own'=.row R.length)∧R.length≤R'.length:=by
 simp only[Bool.and_eq_true,decide_eq_true_eq] at hc
 obtain⟨hs,hb⟩:=hc
 have hcond:0<s∧0<b∧Dh P el=some s∧(es.length+ys.length) * b≤Fd∧(∀ e∈es,e.cells.length=s)∧(∀ e∈ys,e.cells.length=s):=⟨hs,hb,h5,hlen,hes,hys⟩
 have e0:EK P ⟨B,R,μ⟩ t xt (.slice own es) (.slice o ys)=IL P ⟨B,R,μ⟩ t xt (.slice own es) (.slice o ys):=by
  cases own <;> simp[EK,h1,hμ]
 rw[e0]
 unfold IL
 simp only[h1,h2,h3,h4]
 rw[if_pos hcond]
 by_cases hy:ys=[]
 ·subst hy
  rw[if_pos rfl]
  exact⟨own,R,by simp,by simpa using hm,fun _ _ _ h=>h,.inl rfl,Nat.le_refl _⟩
 ·rw[if_neg hy]
  have hpos:0<ys.length:=List.length_pos_iff.2 hy
  rcases hm with hm | ⟨id,cs,hm,hrow,hn⟩
  ·subst hm
   refine⟨_,_,rfl,.inr ⟨R.length,[],rfl,by simp[Nat.add_mul],by rw[List.length_append];omega⟩,fun id _ x hx=>?_,.inr rfl,by simp⟩
   rw[List.getElem?_append_left (List.getElem?_eq_some_iff.1 hx).1];exact hx
  ·subst hm
   have hne:es≠[]:=by intro h;subst h;exact hn rfl
   dsimp only
   rw[if_pos ⟨AIM hrow,hne⟩]
   have hlt:id<R.length:=(List.getElem?_eq_some_iff.1 hrow).1
   refine⟨_,_,rfl,.inr ⟨R.length,[],rfl,by simp[Mem.retire],by rw[List.length_append];omega⟩,fun id' hne' x hx=>?_,.inr rfl,by simp[Mem.retire]⟩
   simp only[Mem.retire]
   have hd:id≠id':=fun h=>hne' (by rw[h])
   rw[List.getElem?_append_left (by rw[List.length_set];exact(List.getElem?_eq_some_iff.1 hx).1),List.getElem?_set_ne hd];exact hx
end
section
def Ji:Option Code→Option Exit
 | none=>some .normal
 | some .ret=>some .ret
 | some (.exit id)=>some (.exit id)
 | _=>none
def Ie:Exit→Option (Option Code)
 | .normal=>some none
 | .ret=>some (some .ret)
 | .exit id=>some (some (.exit id))
 | _=>none
def ACj (m:Mem):Option Nat→Prop
 | none=>True
 | some l=>∃ st pend env ps a b,m.boxes[l]?=some (.loop st pend env ps a b)
def putAll (env:List AV):List Tmp→List AV→List AV
 | t :: ts,a :: as_=>putAll (env.set t a) ts as_
 | _,_=>env
section
variable {g g':Gh} {m m':Mem} {w w':World} {P:Program}
theorem Ot {l b:Nat} {st st':LoopState} {pend pend':Option Code} {env:List AV} {ps:Array Tmp} {as_ body:Code} (hb:g.box l=some b) (hl:m.boxes[l]?=some (.loop st pend env ps as_ body)) (hm:Aa g m w) :
  ∃ r:Loop,w.heap[b]?=some (.loop r)∧r.state=st∧r.pending=pend∧r.params=ps∧r.assign=as_∧r.body=body∧Bi g w env r.tmps ∧
   (∀ o:Obj,o=.loop { r with state:=st',pending:=pend' }→As g m g (m.set l (.loop st' pend' env ps as_ body)) w (w.putObj b o)∧Aa g (m.set l (.loop st' pend' env ps as_ body)) (w.putObj b o)):=by
 obtain⟨vs,d,fn,h1,h2⟩:=hm.boxOk l b _ hb hl
 refine⟨_,h1,rfl,rfl,rfl,rfl,rfl,h2,?_⟩
 rintro o rfl
 have hlm:l<m.boxes.length:=(List.getElem?_eq_some_iff.1 hl).1
 have hlt:=(Array.getElem?_eq_some_iff.1 h1).1
 have hs:=JF (.loop { state:=st',pending:=pend',fn:=fn,tmps:=vs,params:=ps,assign:=as_,body:=body,defers:=d }) (.loop st' pend' env ps as_ body) hb hlm hm
 exact⟨hs,LZ _ _ hb hlm hm ⟨vs,d,fn,EG w b _ hlt,h2.step hm hs⟩⟩
theorem YS {c c':Ck} (h:Bx (m.push c) m'):Bx m (m'.set m.boxes.length c') :=
 ⟨by have:=h.1;simp only[Mem.push,Mem.set,List.length_append,List.length_set] at this ⊢;omega,by have:=h.2;simp only[Mem.push,Mem.set] at this ⊢;exact this⟩
theorem Xc {f : Nat} {fs cs : Array Value} {a : Act} {x : Operand} {b : Nat} (he : a.eval x = .func (.func f) fs cs) {fn : Func} (hfn : P.funcs[f]? = some fn) (hn : (fn.name == "runtime.NumGoroutine") = false) (hb : fn.body.isSome = true) :
  ∃ d,(resolve a.eval (rangeCall x b) 0).run P w=.ok d w∧(invoke d.target d.args).run P w=.ok (.enter f (fs ++ #[.func (.yield b) #[] #[]]++cs)) w:=by
 have hn' : ¬ fn.name = "runtime.NumGoroutine" := by intro e; rw [e] at hn; simp at hn
 have hb':¬ fn.body=none:=by intro e;rw[e] at hb;cases hb
 have hev:a.eval (.const (.func (.yield b) #[] #[]))=.func (.yield b) #[] #[]:=rfl
 refine⟨_,by simp only[resolve,he,Deferred.ofValue];rfl,?_⟩
 simp[invoke,callFunc,hfn,hn',hb',hev]
theorem Bu.range {lo:Option Nat} {x:Operand} {ps:Array Tmp} {as_ body:Code} {env:List AV} {f:FuncId} {first cap:List AV} {r:AV} {m2:Mem} {st:LoopState} {pend:Option Code} {e:Exit} {env2:List AV} {ps2:Array Tmp} {as2 body2:Code}
  (hlo:ACj m lo) (hx:BF env x=some (.func f first cap)) (hc:EB P f (first++[.yield m.boxes.length]++cap) (m.push (.loop .ready none env ps as_ body)) r m2)
  (hb:m2.boxes[m.boxes.length]?=some (.loop st pend env2 ps2 as2 body2)) (hst:st≠.busy) (he:Ji pend=some e) :
  Bu P lo (.rangeFunc x ps as_ body) env m e env (m2.set m.boxes.length (.loop .exhausted pend env2 ps2 as2 body2)):=by
 obtain⟨⟨fn,hfn,hname,hbody⟩,hmono,hc⟩:=hc
 refine⟨YS hmono,fun ro g w a hro hf hm hr=>wpIn_rangeFunc fun fn0 _=>?_⟩
 have hf1:DR g m m2:=⟨fun l h1 h2=>hf.1 l h1 (by simpa [Mem.set] using h2),fun l h1 h2=>hf.2 l h1 (by simpa [Mem.set] using h2)⟩
 have hpush:Bx m (m.push (.loop .ready none env ps as_ body)):=Ml _
 -- the record
 obtain⟨l,mark,w0,d,henter,hs0,hm0,hw0,hl0,hmark⟩:∃ (l:Nat) (mark:List Deferred) (w0:World) (d:Nat),(Instr.enterLoop fn0 a.tmps ps as_ body ro).run P w=.ok (l,mark) (w0.alloc (.loop { state:=.ready,pending:=none,fn:=fn0,tmps:=a.tmps,params:=ps,assign:=as_,body:=body,defers:=d })) ∧
   As g m g m w w0∧Aa g m w0∧w.heap.size≤w0.heap.size∧l=w0.heap.size∧FZ g w0 w.heap.size mark:=by
  cases lo with
  | none =>
   obtain rfl:=hro.1 rfl
   have hs:As g m g m w (w.alloc (.deferred (some []))):=As.plain rfl rfl rfl (by simp) (fun b hb=>EX w _ hb)
   refine⟨_,_,w.alloc (.deferred (some [])),_,run_enterLoop_outer fn0 a.tmps ps as_ body,hs,hm.plain hs (fun b hb=>EX w _ hb),by simp,by simp,by simp,fun d hd=>?_⟩
   simp only[List.mem_singleton] at hd
   refine⟨w.heap.size,hd,Nat.le_refl _,FF w _,fun l h=>?_,fun l h=>?_⟩
   ·exact absurd (hm.box l _ h) (Nat.lt_irrefl _)
   ·exact absurd (hm.row l _ h) (Nat.lt_irrefl _)
  | some l0 =>
   obtain⟨b0,hb0,rfl⟩:=hro.2 l0 rfl
   obtain⟨st0,pend0,env0,ps0,as0,body0,hl0⟩:=hlo
   obtain⟨vs,d,fn1,h1,h2⟩:=hm.boxOk l0 b0 _ hb0 hl0
   exact⟨_,[],w,d,run_enterLoop_inner h1 fn0 a.tmps ps as_ body,As.refl g m w,hm,Nat.le_refl _,rfl,.nil⟩
 subst hl0
 have hr0:=hr.step hm hs0
 have hf2:DR g m (m.push (.loop .ready none env ps as_ body)):=hf1.left hmono
 have hs1:=JE (.loop { state:=.ready,pending:=none,fn:=fn0,tmps:=a.tmps,params:=ps,assign:=as_,body:=body,defers:=d }) (.loop .ready none env ps as_ body) hf2 hm0
 have hm1:=Le (.loop { state:=.ready,pending:=none,fn:=fn0,tmps:=a.tmps,params:=ps,assign:=as_,body:=body,defers:=d }) (.loop .ready none env ps as_ body) hf2 hm0 ⟨a.tmps,d,fn0,FF _ _,hr0.step hm0 hs1⟩
 generalize hW:w0.alloc (.loop { state:=.ready,pending:=none,fn:=fn0,tmps:=a.tmps,params:=ps,assign:=as_,body:=body,defers:=d })=w1 at henter hs1 hm1
 have hs01:=hs0.trans hs1 hm
 have hr1:=hr.step hm hs01
 -- the function
 have hxv:Rep (g.newBox m.boxes.length w0.heap.size) w1 (.func f first cap) (a.eval x):=AAo hr1 hm1.tab #[x] x (by simp) _ hx
 obtain⟨fs,cs,hfv,hfr,hcr⟩:=hxv.func_inv
 obtain⟨dd,hres,hinv⟩:=Xc (w:=w1) (b:=w0.heap.size) hfv hfn hname hbody
 refine⟨w0.heap.size,mark,w1,dd,w1,f,_,w1,henter,hres,fun _ _=>trivial,hinv,(fun h=>by cases h),?_⟩
 have hy:Rep (g.newBox m.boxes.length w0.heap.size) w1 (.yield m.boxes.length) (.func (.yield w0.heap.size) #[] #[]):=.yield _ _ (by simp[Gh.newBox])
 have hargs:Bi (g.newBox m.boxes.length w0.heap.size) w1 (first++[.yield m.boxes.length]++cap) (fs ++ #[.func (.yield w0.heap.size) #[] #[]]++cs):=by
  refine JH (cs:=[]) (ws:=#[]) (JH (cs:=[]) (ws:=#[]) hfr ⟨rfl,fun j a v ha hv=>?_⟩) hcr
  cases j with
  | zero=>simp at ha hv;subst ha hv;exact hy
  | succ j=>simp at ha
 have hcall:CallsIn (Fw ro) (0 - 1) P f (fs ++ #[.func (.yield w0.heap.size) #[] #[]]++cs) w1 _:=hc _ w1 _ (hf1.right hs01) hm1 hargs
 refine hcall.mono ?_
 rintro e' w2 ⟨v,g2,rfl,hs2,hm2,hv⟩
 have hbox:g2.box m.boxes.length=some w0.heap.size:=hs2.boxUp (by simp[Gh.newBox])
 obtain⟨rec,h1,h2,h3,h4,h5,h6,h7,h8⟩:=Ot (st':=.exhausted) (pend':=pend) hbox hb hm2
 obtain⟨hs3,hm3⟩:=h8 _ rfl
 have hend:=run_endLoop (P:=P) h1 (by rw[h2];exact hst)
 rw[h3] at hend
 have hsA:=(hs01.trans hs2 hm).trans hs3 hm
 have hmk:FZ g2 (w2.putObj w0.heap.size (.loop { rec with state:=.exhausted,pending:=pend })) w.heap.size mark:=((hmark.step hs1).step hs2).step hs3
 have hfin:∃ g' ds,({ a with defers:=mark++a.defers }:Act).defers=ds++a.defers∧FZ g' (w2.putObj w0.heap.size (.loop { rec with state:=.exhausted,pending:=pend })) w.heap.size ds∧As g m g' (m2.set m.boxes.length (.loop .exhausted pend env2 ps2 as2 body2)) w (w2.putObj w0.heap.size (.loop { rec with state:=.exhausted,pending:=pend })) ∧
   Aa g' (m2.set m.boxes.length (.loop .exhausted pend env2 ps2 as2 body2)) (w2.putObj w0.heap.size (.loop { rec with state:=.exhausted,pending:=pend }))∧Bi g' (w2.putObj w0.heap.size (.loop { rec with state:=.exhausted,pending:=pend })) env a.tmps :=
  ⟨g2,mark,rfl,hmk,hsA,hm3,hr.step hm hsA⟩
 refine⟨pend,_,hend,?_⟩
 cases pend with
 | none=>simp only[Ji] at he;injection he with he;subst he;exact⟨rfl,hfin⟩
 | some c =>
  cases c with
  | ret=>simp only[Ji] at he;injection he with he;subst he;exact wpIn_ret ⟨rfl,hfin⟩
  | exit id=>simp only[Ji] at he;injection he with he;subst he;exact wpIn_exit ⟨rfl,hfin⟩
  | _=>cases he
theorem AAX:∀ {ts:List Tmp} {as_:List AV} {vs:List Value} {env:List AV} {tmps:Array Value},Bi g w env tmps→vs.length=as_.length→(∀ (j:Nat) (a:AV) (v:Value),as_[j]?=some a→vs[j]?=some v→Rep g w a v) →
  Bi g w (putAll env ts as_) ((ts.zip vs).foldl (fun tmps (t,a)=>tmps.setIfInBounds t a) tmps):=by
 intro ts
 induction ts with
 | nil=>intro as_ vs env tmps h _ _;simpa [putAll] using h
 | cons t ts ih =>
  intro as_ vs env tmps h hl hr
  cases as_ with
  | nil =>
   have:vs=[]:=List.eq_nil_of_length_eq_zero (by simpa using hl)
   subst this;simpa [putAll] using h
  | cons a as_ =>
   cases vs with
   | nil=>simp at hl
   | cons v vs =>
    simp only[putAll,List.zip_cons_cons,List.foldl_cons]
    refine ih ⟨by simp[h.1],fun j b u hb hu=>?_⟩ (by simpa using hl) (fun j b u hb hu=>hr (j+1) b u (by simpa using hb) (by simpa using hu))
    rw[List.getElem?_set] at hb
    rw[Array.getElem?_setIfInBounds] at hu
    split at hb
    ·rename_i e
     rw[if_pos e] at hu
     split at hb
     ·split at hu
      ·injection hb with hb;injection hu with hu;subst hb hu;exact hr 0 a v rfl rfl
      ·cases hu
     ·cases hb
    ·rename_i e
     rw[if_neg e] at hu
     exact h.2 j b u hb hu
theorem IF.yield {l:Nat} {args env0 env1 env2:List AV} {ps:Array Tmp} {as_ body:Code} {pend pend1 pend2:Option Code} {m1 m2:Mem} {e:Exit} {j:Option Code} {enva envb:List AV} {psa psb:Array Tmp} {asa bodya asb bodyb:Code} (hl:m.boxes[l]?=some (.loop .ready pend env0 ps as_ body)) (hlen:args.length=ps.size)
  (ha:Bu P (some l) as_ (putAll env0 ps.toList args) m .normal env1 m1) (hl1:m1.boxes[l]?=some (.loop .ready pend1 enva psa asa bodya))
  (hb:Bu P (some l) body env1 (m1.set l (.loop .busy pend1 enva psa asa bodya)) e env2 m2) (hl2:m2.boxes[l]?=some (.loop .busy pend2 envb psb asb bodyb)) (he:Ie e=some j) :
  IF P (.yield l) args m (.bool j.isNone) (m2.set l (.loop (if j.isNone then .ready else .done) j envb psb asb bodyb)):=by
 have mset:∀ (x:Mem) (c:Ck),Bx x (x.set l c):=fun x c=>Su l c
 have hmono:Bx m (m2.set l (.loop (if j.isNone then .ready else .done) j envb psb asb bodyb)):=(ha.1.trans (mset m1 _)).trans (hb.1.trans (mset m2 _))
 refine⟨hmono,fun g w v vs hf hm hv hargs=>?_⟩
 obtain⟨b,hbx,rfl⟩:∃ b,g.box l=some b∧v=.func (.yield b) #[] #[]:=by
  generalize hx:AV.yield l=x at hv
  cases hv <;> cases hx
  exact⟨_,by assumption,rfl⟩
 obtain⟨rec,r1,r2,r3,r4,r5,r6,r7,_⟩:=Ot (st':=.ready) (pend':=pend) hbx hl hm
 have hsz:vs.size=rec.params.size:=by rw[r4,hargs.1,hlen]
 have hy:=run_yield (P:=P) r1 hsz
 have hrun:(do let d ← Deferred.ofValue (.func (.yield b) #[] #[]) vs;invoke d.target d.args:Sem Next).run P w=.ok (.round b rec.fn ((rec.params.zip vs).foldl (fun tmps (t,a)=>tmps.setIfInBounds t a) rec.tmps) rec.assign rec.body) w:=by
  simp[Deferred.ofValue,invoke,hy]
 unfold JU
 rw[hrun]
 have hro:QA g (some l) (some b):=⟨(fun h=>by cases h),fun l' h=>(by injection h with h;subst h;exact⟨b,hbx,rfl⟩)⟩
 have htm:Bi g w (putAll env0 ps.toList args) ((rec.params.zip vs).foldl (fun tmps (t,a)=>tmps.setIfInBounds t a) rec.tmps):=by
  have:=AAX (ts:=ps.toList) (as_:=args) (vs:=vs.toList) (env:=env0) (tmps:=rec.tmps) r7 (by simp[hargs.1]) (fun j a v h1 h2=>hargs.2 j a v h1 (by simpa using h2))
  rw[r4]
  have e1:(ps.zip vs).foldl (fun tmps (t,a)=>tmps.setIfInBounds t a) rec.tmps=((ps.toList.zip vs.toList).foldl (fun tmps (t,a)=>tmps.setIfInBounds t a) rec.tmps):=by
   rw[← Array.foldl_toList,Array.toList_zip]
  rw[e1];exact this
 have hfr1:DR g m m1:=hf.left ((mset m1 _).trans (hb.1.trans (mset m2 _)))
 refine roundIn_of_wpIn (F:=Fence.wide) trivial ?_
 rw[r5,r6]
 refine wpIn_mono (ha.2 (some b) g w { tmps:=_,defers:=[] } hro hfr1 hm htm) ?_
 rintro e1 a1 w1 ⟨rfl,g1,ds1,hd1,hk1,hs1,hm1,he1⟩
 have hbx1:=hs1.boxUp hbx
 obtain⟨rec1,q1,q2,q3,q4,q5,q6,q7,q8⟩:=Ot (st':=.busy) (pend':=pend1) hbx1 hl1 hm1
 obtain⟨hsB,hmB⟩:=q8 _ rfl
 have hbr:=run_beginRound (P:=P) q1 q2
 rw[q3] at hbr
 refine⟨_,hbr,?_⟩
 have hfr2:DR g1 (m1.set l (.loop .busy pend1 enva psa asa bodya)) m2:=by
  have h1:DR g1 m1 m2:=(hf.left (mset m2 _)).right hs1
  exact⟨fun l h1' h2'=>h1.1 l (by simpa [Mem.set] using h1') h2',fun l h1' h2'=>h1.2 l (by simpa [Mem.set] using h1') h2'⟩
 refine wpIn_mono (hb.2 (some b) g1 _ a1 ((hro.up hs1).up hsB) hfr2 hmB (he1.step hm1 hsB)) ?_
 rintro e2 a2 w2 ⟨rfl,g2,ds2,hd2,hk2,hs2,hm2,he2⟩
 have hbx2:=(hsB.trans hs2 hm1).boxUp hbx1
 obtain⟨rec2,p1,p2,p3,p4,p5,p6,p7,p8⟩:=Ot (st':=if j.isNone then .ready else .done) (pend':=j) hbx2 hl2 hm2
 obtain⟨hsE,hmE⟩:=p8 _ rfl
 have hend:=run_endRound (P:=P) j p1
 have hgood:∃ v,Ending.returned (.bool j.isNone)=.returned v∧Good g m (m2.set l (.loop (if j.isNone then .ready else .done) j envb psb asb bodyb)) w (.bool j.isNone) v (w2.putObj b (.loop { rec2 with state:=if j.isNone then .ready else .done,pending:=j })) :=
  ⟨_,rfl,g2,((hs1.trans hsB hm).trans hs2 hm).trans hsE hm,hmE,.atom _ rfl⟩
 cases e2 with
 | normal=>simp only[Ie] at he;injection he with he;subst he;exact⟨_,_,hend,hgood⟩
 | ret=>simp only[Ie] at he;injection he with he;subst he;exact⟨_,_,hend,hgood⟩
 | exit id=>simp only[Ie] at he;injection he with he;subst he;exact⟨_,_,hend,hgood⟩
 | _=>cases he
end
end
section
def DZ (b:Nat) (m m':Mem):Prop:=(∀ i c,b≤i→m.boxes[i]?=some c→m'.boxes[i]?=some c)∧m.boxes.length≤m'.boxes.length∧m.rows.length≤m'.rows.length∧m'.mode=m.mode
theorem DZ.refl (b:Nat) (m:Mem):DZ b m m:=⟨fun _ _ _ h=>h,Nat.le_refl _,Nat.le_refl _,rfl⟩
theorem DZ.trans {b:Nat} {m m' m'':Mem} (h:DZ b m m') (k:DZ b m' m''):DZ b m m'':=⟨fun i c hi hc=>k.1 i c hi (h.1 i c hi hc),Nat.le_trans h.2.1 k.2.1,Nat.le_trans h.2.2.1 k.2.2.1,k.2.2.2.trans h.2.2.2⟩
theorem Ext.keepB {m m':Mem} (h:Ext m m') (b:Nat):DZ b m m':=⟨fun i c _ hc=>h.get hc,by obtain⟨⟨x,hx⟩,_⟩:=h;rw[hx];simp,by obtain⟨_,⟨x,hx⟩,_⟩:=h;rw[hx];simp,h.2.2⟩
theorem DZ.le {b b':Nat} {m m':Mem} (h:DZ b m m') (hb:b≤b'):DZ b' m m':=⟨fun i c hi hc=>h.1 i c (by omega) hc,h.2⟩
theorem Mi {b l:Nat} {m:Mem} (c:Ck) (h:l<b):DZ b m (m.set l c):=⟨fun i x hi hx=>by simp only[Mem.set];rw[List.getElem?_set_ne (by omega)];exact hx,by simp[Mem.set],by simp[Mem.set],rfl⟩
def AOu (v:AV):Prop:=v.strip=v∧Bj v=true∧v.cells=[v]
def NL (P:Program) (fi:FuncId) (first cap:List AV) (C:Mem→Prop) (xs:List (List AV)):Prop :=
 ∀ (b:Nat) (yv:AV) (I:Nat→Mem→Prop) (D:Mem→Prop) (m:Mem),AOu yv→b≤m.boxes.length→(∀ i m,I i m→C m)→(∀ i m m',I i m→Ext m m'→I i m')→(∀ m m',D m→Ext m m'→D m')→I 0 m →
  (∀ i m1 k c,m.boxes.length≤k→I i m1→I i (m1.set k c))→(∀ m1 k c,m.boxes.length≤k→D m1→D (m1.set k c)) →
  (∀ i x m1,xs[i]?=some x→DZ b m m1→I i m1→HL P yv x m1 fun r m2=>DZ b m1 m2∧((r=.bool true∧I (i+1) m2)∨(r=.bool false∧D m2))) →
  Ft P fi (first++[yv]++cap) m fun r m'=>DZ b m m'∧(I xs.length m'∨D m')
def Im (e:CM):List Tmp→List AV→CM
 | t :: ts,a :: as_=>Im (sput e (some t) a) ts as_
 | _,_=>e
theorem PN:∀ (ts:List Tmp) (as_:List AV) (env:List AV),(putAll env ts as_).length=env.length:=by
 intro ts
 induction ts with
 | nil=>intro as_ env;simp[putAll]
 | cons t ts ih =>
  intro as_ env
  cases as_ with
  | nil=>simp[putAll]
  | cons a as_=>simp only[putAll];rw[ih];simp
theorem ET.putAll {n:Nat}:∀ (ts:List Tmp) (as_:List AV) {e:CM} {env:List AV},env.length=n→(∀ t∈ts,t<n)→ET e env→ET (Im e ts as_) (putAll env ts as_):=by
 intro ts
 induction ts with
 | nil=>intro as_ e env _ _ h;simpa [G.putAll,Im] using h
 | cons t ts ih =>
  intro as_ e env hn ht h
  cases as_ with
  | nil=>simpa [G.putAll,Im] using h
  | cons a as_ =>
   simp only[G.putAll,Im]
   exact ih as_ (by simpa using hn) (fun t h=>ht t (List.mem_cons_of_mem _ h)) (ET.put h (by rw[hn];exact ht t (by simp)))
def AEL (c:Ck):Prop:=∃ st pend env ps a b,c=.loop st pend env ps a b
section
variable {P:Program} {f:FuncId} {lo:Option Nat}
theorem SC.exec {fn:Func} (hmix:P.follows .mixedOrders=true) (hf:P.funcs[f]?=some fn) {k:Nat} {Q:Exit→CM→Mem→Prop} {e:CM} {env:List AV} {m:Mem} (hd:MI fn k=true) (hn:env.length=BN P f) (hfit:ET e env)
  (h:SC P f lo (Dk (k+1) (Er fn k)) Q e m):∃ x env' m',Bu P lo (Bm P f k) env m x env' m'∧WK (BN P f) (Q x) env' m':=by
 simp only[MI,Bool.and_eq_true,decide_eq_true_eq] at hd
 have hb:Cd P f=Bl fn:=by simp[Cd,Bl,hf]
 have e1:Bm P f k=Er fn k:=by simp[Bm,Er,hb]
 have e2:fn.ntmps=BN P f:=by simp[BN,hf]
 rw[← e1,e2,← hb] at hd
 rw[← e1] at h
 have h0:(At (Cd P f))[k]?=some (Bm P f k):=by
  have h1:k<(At (Cd P f)).length:=by rw[Eh];exact hd.1.1.1
  simp[Bm,List.getElem?_eq_getElem h1]
 exact WC.exec hmix hd.1.1.2 (SC.wc hn hfit hd.1.2 hd.2 (fun i hi=>KB h0 i hi) h)
theorem AAz:∀ {x:Exit} {c:Code},Ie x=some (some c)→Ji (some c)=some x:=by
 intro x c h
 cases x <;> simp only[Ie] at h
 all_goals first | (injection h with h;injection h with h;subst h;rfl) | (injection h with h;cases h) | cases h
theorem Pz.iter {fn:Func} (hmix:P.follows .mixedOrders=true) (hf:P.funcs[f]?=some fn) {k j:Nat} {Q:Exit→CM→Mem→Prop} {e e0:CM} {m:Mem} {g:Operand} {ps:Array Tmp} {fi:FuncId} {first cap:List AV} {xs:List (List AV)}
  (hk:MI fn k=true) (hj:MI fn j=true) (hps:(ps.toList.all fun t=>decide (t<fn.ntmps))=true) (hg:Cv e g=some (.func fi first cap)) (hs:∀ p∈e0,GF e p.1=some p.2) (hlo:ACj m lo) {C:Mem→Prop} (hI:NL P fi first cap C xs)
  (I:Nat→Mem→Prop) (D:Exit→Mem→Prop) (hIext:∀ i m m',I i m→Ext m m'→I i m') (hDext:∀ x m m',D x m→Ext m m'→D x m') (hIset:∀ i m1 k c,m.boxes.length≤k→I i m1→I i (m1.set k c)) (hDset:∀ x m1 k c,m.boxes.length≤k→D x m1→D x (m1.set k c))
  (hC:∀ i m,I i m→C m) (h0:∀ c,I 0 (m.push c))
  (round:∀ i x m1 c,xs[i]?=some x→I i m1→AEL c→m1.boxes[m.boxes.length]?=some c→x.length=ps.size ∧
   SC P f (some m.boxes.length) (Dk (k+1) (Er fn k)) (fun x1 e1 m2=>x1=.normal∧DZ (m.boxes.length+1) m1 m2∧m2.boxes[m.boxes.length]?=some c∧∀ c',AEL c' →
    SC P f (some m.boxes.length) (Dk (j+1) (Er fn j)) (fun x2 _ m3=>DZ (m.boxes.length+1) (m2.set m.boxes.length c') m3∧m3.boxes[m.boxes.length]?=some c'∧((x2=.normal∧I (i+1) m3)∨((∃ c,Ie x2=some (some c))∧D x2 m3))) e1 (m2.set m.boxes.length c')) (Im e0 ps.toList x) m1)
  (fin:∀ m',I xs.length m'→Q .normal e0 m') (finD:∀ x m',D x m'→Q x e0 m'):Pz P f lo g ps k j Q e m:=by
 intro env hn hfit
 have hfit0:ET e0 env:=hfit.sub (SQ hs)
 have hnt:fn.ntmps=BN P f:=by simp[BN,hf]
 have hpt:∀ t∈ps.toList,t<BN P f:=fun t ht=>by rw[← hnt];exact of_decide_eq_true (List.all_eq_true.1 hps t ht)
 generalize hl:m.boxes.length=l at *
 obtain⟨r,m2,hc,hkeep,hend⟩:=hI (l+1) (.yield l) (fun i m1=>I i m1∧m1.boxes[l]?=some (.loop .ready none env ps (Bm P f k) (Bm P f j)))
  (fun m1=>∃ x c,D x m1∧m1.boxes[l]?=some (.loop .done (some c) env ps (Bm P f k) (Bm P f j))∧Ji (some c)=some x)
  (m.push (.loop .ready none env ps (Bm P f k) (Bm P f j))) ⟨rfl,rfl,rfl⟩ (by simp[Mem.push,hl]) (fun i m h=>hC i m h.1) (fun i m m' h he=>⟨hIext i m m' h.1 he,he.get h.2⟩) (fun m m' ⟨x,c,h1,h2,h3⟩ he=>⟨x,c,hDext x m m' h1 he,he.get h2,h3⟩)
  ⟨h0 _,by simp[Mem.push,← hl]⟩
  (fun i m1 k c hk h=>by
   have hk:l+1≤k:=by simpa [Mem.push,hl] using hk
   exact⟨hIset i m1 k c (by omega) h.1,by simp only[Mem.set];rw[List.getElem?_set_ne (by omega)];exact h.2⟩)
  (fun m1 k c hk ⟨x,c',h1,h2,h3⟩=>by
   have hk:l+1≤k:=by simpa [Mem.push,hl] using hk
   exact⟨x,c',hDset x m1 k c (by omega) h1,by simp only[Mem.set];rw[List.getElem?_set_ne (by omega)];exact h2,h3⟩) (by
   rintro i x m1 hx hk1 ⟨hi,hb⟩
   obtain⟨hlen,hA⟩:=round i x m1 _ hx hi ⟨_,_,_,_,_,_,rfl⟩ hb
   obtain⟨x1,env1,m2,ha,hn1,e1,hf1,rfl,hk2,hb2,hB⟩:=SC.exec hmix hf hk (by rw[PN];exact hn) (ET.putAll ps.toList x hn hpt hfit0) hA
   obtain⟨x2,env2,m3,hb',hn2,e2,hf2,hk3,hb3,hend⟩:=SC.exec hmix hf hj hn1 hf1 (hB (.loop .busy none env ps (Bm P f k) (Bm P f j)) ⟨_,_,_,_,_,_,rfl⟩)
   have hl3:l<m3.boxes.length:=(List.getElem?_eq_some_iff.1 hb3).1
   rcases hend with⟨rfl,hI'⟩|⟨⟨c,hc⟩,hD'⟩
   ·refine⟨_,_,IF.yield hb hlen ha hb2 hb' hb3 rfl,((hk2.trans (Mi _ (by omega))).trans hk3).trans (Mi _ (by omega)),.inl ⟨rfl,hIset _ _ _ _ (Nat.le_refl _) hI',?_⟩⟩
    simp only[Mem.set]
    rw[List.getElem?_set_self hl3];rfl
   ·refine⟨_,_,IF.yield hb hlen ha hb2 hb' hb3 hc,((hk2.trans (Mi _ (by omega))).trans hk3).trans (Mi _ (by omega)),.inr ⟨rfl,x2,c,hDset _ _ _ _ (Nat.le_refl _) hD',?_,AAz hc⟩⟩
    simp only[Mem.set]
    rw[List.getElem?_set_self hl3];rfl)
 rcases hend with⟨hI',hb⟩|⟨x,c,hD',hb,hx⟩
 ·refine⟨.normal,env,_,Bu.range hlo (Dx hfit _ hg) (by rw[hl];exact hc) (by rw[hl];exact hb) (by simp) rfl,hn,e0,hfit0,?_⟩
  rw[hl]
  exact fin _ (hIset _ _ _ _ (Nat.le_refl _) hI')
 ·refine⟨x,env,_,Bu.range hlo (Dx hfit _ hg) (by rw[hl];exact hc) (by rw[hl];exact hb) (by simp) hx,hn,e0,hfit0,?_⟩
  rw[hl]
  exact finD _ _ (hDset _ _ _ _ (Nat.le_refl _) hD')
end
end
section
class Mu where
 mu:TypeId→Bool
instance (priority:=low) muNone:Mu:=⟨fun _=>false⟩
def Bk [Mu] (t:TypeId):Bool:=Mu.mu t
def isV (i:Nat):Bool:=decide (50000000≤i)
def isB (i:Nat):Bool:=decide (90000000≤i)
def vOf (b:Bool) (d:Nat):Nat:=if b=true then 50000000+d % 40000000 else d % 50000000
theorem Lr (b:Bool) (d:Nat):isV (vOf b d)=b:=by
 cases b
 ·simp only[isV,vOf,Bool.false_eq_true,if_false,decide_eq_false_iff_not];have:=Nat.mod_lt d (show 0<50000000 by omega);omega
 ·simp[isV,vOf]
theorem Vd (b:Bool) (d:Nat):isB (vOf b d)=false:=by
 cases b
 ·simp only[isB,vOf,Bool.false_eq_true,if_false,decide_eq_false_iff_not];have:=Nat.mod_lt d (show 0<50000000 by omega);omega
 ·simp only[isB,vOf,if_true,decide_eq_false_iff_not];have:=Nat.mod_lt d (show 0<40000000 by omega);omega
def BZ (i s:Nat) (o:Own) (es:List AV):AV :=
 if isV i=true then(match o with
  | .row id=>.vec id 0 es.length s .opn
  | o=>.slice (if isB i=true then .foreign else o) es)
 else .slice o es
inductive LA where
 | a (x:AV)
 | p (t:Nat)
 | m (t:Nat)
 | fn (f:FuncId) (first cap:List LA)
inductive CV where
 | v (a:AV)
 | own (i s:Nat) (es:List AV)
 | fn (f:FuncId) (first cap:List LA)
 | p (t:Nat)
 | m (t:Nat)
 | mp (es:List (Value × AV))
 | dead
inductive LV where
 | v (a:AV)
 | own (i s:Nat) (es:List AV)
 | ag (cs:List CV)
 | lref (t off:Nat)
 | fn (f:FuncId) (first cap:List LA)
 | iter (xs:List (List AV))
 | vref (i s k off:Nat)
 | vsub (i s k n:Nat)
 | mref (t:Nat)
 | dead
def AI {α:Type}:List (Nat × α)→Nat→Option α
 | [],_=>none
 | (d,v) :: l,t=>if d=t then some v else AI l t
structure AM where
 S:List (Nat × LV)
 N:List (Nat × List CV)
def FR (L:AM) (dst:Option Tmp) (v:LV):AM :=
 match dst with
 | some t=>⟨(t,v) :: L.S,L.N⟩
 | none=>L
def Dq (L:AM) (t:Nat) (cs:List CV):AM:=⟨L.S,(t,cs) :: L.N⟩
def CV.rd:CV→Option AV
 | .v a=>some a
 | .own i _ es=>if isV i=true then none else some (.slice .foreign es)
 | _=>none
def LV.rd:LV→Option AV
 | .v a=>some a
 | .own i _ es=>if isV i=true then none else some (.slice .foreign es)
 | .ag cs=>(cs.mapM CV.rd).map .agg
 | _=>none
def LV.val:LV→Option AV
 | .v a=>some a
 | _=>none
def LV.any:LV→Option LV
 | .dead=>none
 | x=>some x
def leval (L:AM):Operand→Option AV
 | .tmp t=>(AI L.S t).bind LV.val
 | .const v=>Ez v
 | .func f=>some (.func f [] [])
 | .global k=>Kl k
def LV.cmpv:LV→Option AV
 | .v a=>some a
 | .lref _ _=>some (.ptr 0 0)
 | _=>none
def levalR (L:AM):Operand→Option AV
 | .tmp t=>(AI L.S t).bind LV.rd
 | .const v=>Ez v
 | .func f=>some (.func f [] [])
 | .global k=>Kl k
def levalA (L:AM):Operand→Option LV
 | .tmp t=>(AI L.S t).bind LV.any
 | .const v=>(Ez v).map .v
 | .func f=>some (.v (.func f [] []))
 | .global k=>(Kl k).map .v
def levalC (L:AM) (o:Operand):Option AV:=(levalA L o).bind LV.cmpv
def levals (L:AM) (l:List Operand):Option (List AV):=l.mapM (leval L)
def levalsA (L:AM) (l:List Operand):Option (List LV):=l.mapM (levalA L)
def lparts (L:AM) (l:List (Nat × Operand)):Option (List (Nat × AV)):=l.mapM fun p=>(levalR L p.2).map (p.1,·)
def lopt (L:AM):Option Operand→Option (Option AV)
 | none=>some none
 | some x=>(leval L x).map some
def LV.cells:LV→Option (List CV)
 | .v a=>if Bj a=true then some (a.cells.map .v) else none
 | .own i s es=>some [.own i s es]
 | .ag cs=>some cs
 | .fn f first cap=>some [.fn f first cap]
 | .lref t off=>if off=0 then some [.p t] else none
 | .mref t=>some [.m t]
 | _=>none
def CV.val:CV→Option AV
 | .v a=>some a
 | _=>none
def ZL (cs:List CV):LV :=
 match cs.mapM CV.val with
 | some l=>.v (.agg l)
 | none=>.ag cs
def CV.lv:CV→Option LV
 | .v a=>some (.v a)
 | .own i s es=>some (.own i s es)
 | .fn f first cap=>some (.fn f first cap)
 | .p t=>some (.lref t 0)
 | .m t=>some (.mref t)
 | .mp _=>none
 | .dead=>none
def VO (P:Program) (t:TypeId) (cs:List CV) (off:Nat):Option LV :=
 match DC P t,Av P t with
 | some true,some n=>if off+n≤cs.length then some (ZL ((cs.drop off).take n)) else none
 | some false,some _=>(cs[off]?).bind CV.lv
 | _,_=>none
def Jx (cs:List CV) (off:Nat) (xs:List CV):List CV:=cs.take off++xs++cs.drop (off+xs.length)
mutual
def LA.free (d:Nat):LA→Bool
 | .a _=>true
 | .p t=>t != d
 | .m t=>t != d
 | .fn _ first cap=>LAs.free d first&&LAs.free d cap
def LAs.free (d:Nat):List LA→Bool
 | []=>true
 | x :: l=>LA.free d x&&LAs.free d l
end
def CV.free (d:Nat):CV→Bool
 | .fn _ first cap=>LAs.free d first&&LAs.free d cap
 | .p t=>t != d
 | .m t=>t != d
 | _=>true
def CVs.free (d:Nat):List CV→Bool
 | []=>true
 | c :: l=>c.free d&&CVs.free d l
def LV.free (d:Nat):LV→Bool
 | .lref t _=>t != d
 | .mref t=>t != d
 | .fn _ first cap=>LAs.free d first&&LAs.free d cap
 | .ag cs=>CVs.free d cs
 | _=>true
def VC (d:Nat):List (Nat × LV)→Bool
 | []=>true
 | (_,v) :: l=>v.free d&&VC d l
def Tz (d:Nat):List (Nat × List CV)→Bool
 | []=>true
 | (t,cs) :: l=>(t != d)&&(CVs.free d cs&&Tz d l)
def FO (d:Nat) (L:AM):Bool:=VC d L.S&&Tz d L.N
def CV.kill (i d:Nat):CV→CV
 | .own j s es=>if j=i then .dead else if j=d then .dead else .own j s es
 | c=>c
def LV.kill (i d:Nat):LV→LV
 | .own j s es=>if j=i then .dead else if j=d then .dead else .own j s es
 | .ag cs=>.ag (cs.map (CV.kill i d))
 | .vref j s k off=>if j=i then .dead else if j=d then .dead else .vref j s k off
 | .vsub j s k n=>if j=i then .dead else if j=d then .dead else .vsub j s k n
 | x=>x
def RC (i d:Nat):List (Nat × LV)→List (Nat × LV)
 | []=>[]
 | (t,v) :: L=>(t,v.kill i d) :: RC i d L
def RQ (i d:Nat):List (Nat × List CV)→List (Nat × List CV)
 | []=>[]
 | (t,cs) :: L=>(t,cs.map (CV.kill i d)) :: RQ i d L
def EZ (i d:Nat) (L:AM):AM:=⟨RC i d L.S,RQ i d L.N⟩
def IB (P:Program) (t xt:TypeId) (es ys:List AV):Option Nat :=
 match Bn P t,Bn P xt with
 | some e,some _ =>
  match Av P e,ER P e with
  | some s,some b=>if 0<s∧0<b∧Dh P e=some s∧(es.length+ys.length) * b≤Fd∧(∀ e∈es,e.cells.length=s)∧(∀ e∈ys,e.cells.length=s) then some s else none
  | _,_=>none
 | _,_=>none
def DQ:Nat:=3000000
structure Fu where
 early:Bool
 pend:List Nat
 late:Bool
def My (i:Nat):List CV→Option (Nat × List AV)
 | []=>none
 | .own j s es :: l=>if j=i then some (s,es) else My i l
 | _ :: l=>My i l
def Nw (i:Nat) (seen:List Nat):List (Nat × List CV)→Option (Nat × List AV)
 | []=>none
 | (t,cs) :: l=>(if seen.contains t=true then none else My i cs).or (Nw i (t :: seen) l)
def Ts (i:Nat):LV→Option (Nat × List AV)
 | .own j s es=>if j=i then some (s,es) else none
 | .ag cs=>My i cs
 | _=>none
def RO (i:Nat) (seen:List Nat):List (Nat × LV)→Option (Nat × List AV)
 | []=>none
 | (t,v) :: l=>(if seen.contains t=true then none else Ts i v).or (RO i (t :: seen) l)
def La (i:Nat) (L:AM):Option (Nat × List AV):=(Nw i [] L.N).or (RO i [] L.S)
def CV.upd (i s:Nat) (es':List AV):CV→CV
 | .own j s' es=>if j=i then(if s'=s then .own j s' es' else .dead) else .own j s' es
 | x=>x
def LV.upd (i s:Nat) (es':List AV):LV→LV
 | .own j s' es=>if j=i then(if s'=s then .own j s' es' else .dead) else .own j s' es
 | .ag cs=>.ag (cs.map (CV.upd i s es'))
 | x=>x
def Zs (i s:Nat) (es':List AV):List (Nat × LV)→List (Nat × LV)
 | []=>[]
 | (t,v) :: l=>(t,v.upd i s es') :: Zs i s es' l
def YJ (i s:Nat) (es':List AV):List (Nat × List CV)→List (Nat × List CV)
 | []=>[]
 | (t,cs) :: l=>(t,cs.map (CV.upd i s es')) :: YJ i s es' l
def KM (i s:Nat) (es':List AV) (L:AM):AM:=⟨Zs i s es' L.S,YJ i s es' L.N⟩
def OR (e:AV) (off:Nat) (ys:List AV):Option AV :=
 match e with
 | .agg cs=>if off+ys.length≤cs.length∧(ys.all AV.one)=true then some (.agg (Ca cs off ys)) else none
 | _=>match ys with
  | [y]=>if off=0∧e.one=true∧y.one=true then some y else none
  | _=>none
variable [Mu]
def muT (P:Program) (t:TypeId):Bool :=
 match Bn P t with
 | some el=>Bk el
 | none=>false
def Hr (P:Program) (t xt:TypeId) (x:LV) (y:AV) (dst:Option Tmp) (early:Bool) (L:AM):Option (LV × AM × List Nat) :=
 match dst,y with
 | some d,.slice _ ys =>
  match x with
  | .v (.slice .full es)=>if muT P t=true∧(es.isEmpty || !ys.isEmpty)=false then none else(IB P t xt es ys).map fun s=>(.own (vOf (muT P t) d) s (es++ys),EZ (vOf (muT P t) d) (vOf (muT P t) d) L,[])
  | .own i s es=>if early=true∨isV i≠muT P t∨isB i=true then none else(IB P t xt es ys).bind fun s'=>if s'=s then some (.own (vOf (muT P t) d) s (es++ys),EZ i (vOf (muT P t) d) L,[]) else none
  | _=>none
 | _,_=>none
def Vh (P:Program) (t:TypeId) (v:Option LV) (lo hi mx:Option (Option AV)):Option LV :=
 match v,lo,hi,mx,(Bn P t).bind (Av P) with
 | some (.own i s es),some lo,some hi,some none,some s' =>
  match GD lo 0,GD hi es.length with
  | some l,some h=>if isV i=true∧s'=s∧0≤l∧l≤h∧h≤es.length∧0<es.length then some (.vsub i s l.toNat (h - l).toNat) else none
  | _,_=>none
 | _,_,_,_,_=>none
def Zr (L:AM) (v:Option LV) (x:Option AV):Option (LV × AM × List Nat) :=
 match v with
 | some v=>some (v,L,[])
 | none=>x.map (.v ·,L,[])
def AHa:LV→Bool
 | .vsub ..=>true
 | _=>false
def YI (P:Program) (t xt:TypeId) (x y:LV) (dst:Option Tmp) (early:Bool) (L:AM):Option (LV × AM × List Nat) :=
 match dst,x,y with
 | some d,.vsub i s k a,.vsub i' s2 b n=>match La i L with
  | some (s3,es)=>if k=0∧i'=i∧s2=s∧s3=s∧early=false∧isV i=true∧muT P t=true∧a≤b∧b+n≤es.length∧IB P t xt (es.take a) ((es.drop b).take n)=some s then
    some (.own (vOf true d) s (es.take a++(es.drop b).take n),EZ i (vOf true d) L,[]) else none
  | none=>none
 | _,_,_=>none
def CV.isMp:CV→Bool
 | .mp _=>true
 | .v _=>false
 | .own _ _ _=>false
 | .fn _ _ _=>false
 | .p _=>false
 | .m _=>false
 | .dead=>false
def isMp:List CV→Bool
 | []=>false
 | c :: _=>c.isMp
def OS:List CV→Option (List (Value × AV))
 | []=>none
 | .mp es :: _=>some es
 | .v _ :: _=>none
 | .own _ _ _ :: _=>none
 | .fn _ _ _ :: _=>none
 | .p _ :: _=>none
 | .m _ :: _=>none
 | .dead :: _=>none
def KA (kind:TypeDesc) (k:Value):List (Value × AV)→Nat→Option (Option (Nat × AV))
 | [],_=>some none
 | e :: es,i=>match Go.Instr.sameNow kind k e.1 with
  | some true=>some (some (i,e.2))
  | some false=>KA kind k es (i+1)
  | none=>none
def NS (es:List (Value × AV)) (k:Value) (v:AV):Option (Nat × AV)→List (Value × AV)
 | some (i,_)=>es.modify i fun _=>(k,v)
 | none=>es++[(k,v)]
def Nr (P:Program) (t:TypeId) (p:LV) (k:AV) (ok:Bool) (late:Bool) (L:AM):Option (LV × AM × List Nat) :=
 match p with
 | .mref t'=>if late=true then none else(Oo P t).bind fun q=>(ON P q.1).bind fun kd=>(OV k).bind fun kv=>((AI L.N t').bind OS).bind fun es=>(KA kd kv es 0).bind fun r=>(LK P q.2 ok r).map (.v ·,L,[])
 | _=>none
def KZ (P:Program) (t:TypeId) (p:LV) (k:AV) (y:AV) (pos:Fu) (L:AM):Option (LV × AM × List Nat) :=
 match p with
 | .mref t'=>if decide (t'<DQ)=true∧pos.early=false∧pos.pend.contains t'=false∧Bj y=true then(Oo P t).bind fun q=>(ON P q.1).bind fun kd=>(OV k).bind fun kv=>((AI L.N t').bind OS).bind fun es=>(KA kd kv es 0).map fun r=>(.v .undef,Dq L t' [.mp (NS es kv y.strip r)],[]) else none
 | _=>none
def Ug (dst:Option Tmp) (L:AM):Option (LV × AM × List Nat) :=
 match dst with
 | some d=>if(decide (d<DQ)&&FO d L)=true then some (.mref d,Dq L d [.mp []],[]) else none
 | none=>none
def Tw (P:Program) (t:TypeId) (p:LV) (late:Bool) (L:AM):Option (LV × AM × List Nat) :=
 match p with
 | .lref t' off=>match AI L.N t' with
  | some cs=>if isMp cs=true then none else(VO P t cs off).map (·,L,if late=true then [t'] else [])
  | none=>none
 | .v (.eptr e off)=>(Fa P t e.cells off).map (.v ·,L,[])
 | .vref i s k off=>if late=true then none else match La i L with
  | some (s',es)=>if s'≠s∨isV i=false then none else(es[k]?).bind fun e=>(Fa P t e.cells off).map (.v ·,L,[])
  | none=>none
 | _=>none
def Mb (P:Program) (t:TypeId) (p:LV) (y:LV) (pos:Fu) (L:AM):Option (LV × AM × List Nat) :=
 match p with
 | .lref t' off=>match AI L.N t',Av P t with
  | some cs,some n=>(y.cells).bind fun ys=>if isMp cs=false∧decide (t'<DQ)=true∧pos.early=false∧pos.pend.contains t'=false∧ys.length=n∧off+n≤cs.length then some (.v .undef,Dq L t' (Jx cs off ys),[]) else none
  | _,_=>none
 | .vref i s k off=>match La i L,Av P t,y with
  | some (s',es),some n,.v a=>if isV i=true∧s'=s∧pos.early=false∧a.cells.length=n∧Bj a=true then(es[k]?).bind fun e=>(OR e off a.cells).map fun e'=>(.v .undef,KM i s (es.set k e') L,[]) else none
  | _,_,_=>none
 | _=>none
def OQ (P:Program) (t:TypeId) (p:LV) (f:Nat):Option LV :=
 match p with
 | .lref t' off=>match BI P t f with
  | some (ft,o)=>match Av P ft with
   | some (_+1)=>some (.lref t' (off+o))
   | _=>none
  | none=>none
 | .v (.eptr e off)=>(GH P t (.eptr e off) f).map .v
 | .vref i s k off=>match BI P t f with
  | some (ft,o)=>match Av P ft with
   | some (_+1)=>some (.vref i s k (off+o))
   | _=>none
  | none=>none
 | _=>none
def OD (P:Program) (t:TypeId) (p:LV) (i:AV):Option LV :=
 match p with
 | .lref t' off=>match i,Ec P t with
  | .atom (.int _ n),some (len,e)=>match Av P e with
   | some s=>if 0≤n∧n<len then some (.lref t' (off+n.toNat * s)) else none
   | none=>none
  | _,_=>none
 | .own j s es=>if isV j=true then(match i,Bn P t with
   | .atom (.int _ n),some e=>match Av P e with
    | some s'=>if s'=s∧0≤n∧n<es.length then some (.vref j s n.toNat 0) else none
    | none=>none
   | _,_=>none)
  else(EM P t (.slice .foreign es) i).map .v
 | .v x=>(EM P t x i).map .v
 | _=>none
def ABz (L:AM) (a b:Operand):Option AV→Option LV
 | some (.atom (.bool t))=>levalA L (if t then a else b)
 | _=>none
def Gi (L:AM) (x:Option AV):Option (LV × AM × List Nat):=x.map (.v ·,L,[])
def JR (L:AM) (x:Option LV):Option (LV × AM × List Nat):=x.map (·,L,[])
def AGf:LV→Option LV
 | .lref t o=>some (.lref t o)
 | .v (.eptr e o)=>some (.v (.eptr e o))
 | .v (.func f a b)=>some (.v (.func f a b))
 | .fn f a b=>some (.fn f a b)
 | .vref i s k off=>some (.vref i s k off)
 | _=>none
def Ox (P:Program) (s t:TypeId) (a:AV):Option AV :=
 match a,P.underlying s,P.underlying t with
 | .atom (.int _ n),some (.int _),some (.int k)=>some (.atom (.int k (k.wrap n)))
 | _,_,_=>none
def TD (i:Nat):AV→Option AV
 | .tuple vs=>vs[i]?
 | _=>none
def TG (dst:Option Tmp) (L:AM) (cs:Option (List CV)):Option (LV × AM × List Nat) :=
 match dst with
 | some d=>if(decide (d<DQ)&&FO d L)=true then cs.map (fun c=>(.lref d 0,Dq L d c,[])) else none
 | none=>none
def LV.la1:LV→Option LA
 | .v a=>some (.a a.strip)
 | .own i _ es=>if isV i=true then none else some (.a (.slice .foreign es))
 | .ag cs=>(cs.mapM CV.rd).map fun l=>.a (AV.agg l).strip
 | .lref t 0=>some (.p t)
 | .mref t=>some (.m t)
 | .fn f first cap=>some (.fn f first cap)
 | _=>none
def LV.la2:LV→Option LA
 | .v a=>some (.a a)
 | .lref t 0=>some (.p t)
 | .mref t=>some (.m t)
 | .fn f first cap=>some (.fn f first cap)
 | _=>none
def LA.val:LA→Option AV
 | .a x=>some x
 | _=>none
def WS (f:FuncId) (first cap:List LA):LV :=
 match first.mapM LA.val,cap.mapM LA.val with
 | some a,some b=>.v (.func f a b)
 | _,_=>.fn f first cap
def Qk:AV→Bool
 | .slice .full (_ :: _ :: _)=>true
 | _=>false
@[go_sem] theorem AOv:Qk (.slice .full [])=false:=rfl
@[go_sem] theorem APe (a:AV):Qk (.slice .full [a])=false:=rfl
@[go_sem] theorem AOd (a b:AV) (l:List AV):Qk (.slice .full (a :: b :: l))=true:=rfl
def Yf (P:Program) (t:TypeId) (dst:Option Tmp) (L:AM) (x:Option AV):Option (LV × AM × List Nat) :=
 x.bind fun a=>if Qk a=true∧muT P t=true then(match dst,(Bn P t).bind (Av P),a with
  | some d,some s,.slice _ es=>some (.own (vOf true d) s es,EZ (vOf true d) (vOf true d) L,[])
  | _,_,_=>none) else some (.v a,L,[])
def lop (P:Program) (op:Op) (dst:Option Tmp) (pos:Fu) (L:AM):Option (LV × AM × List Nat) :=
 match op with
 | .move x=>JR L (levalA L x)
 | .assign x=>JR L (levalA L x)
 | .pick c a b=>JR L (ABz L a b (leval L c))
 | .alloc t=>TG dst L ((DE P t).map (·.map .v))
 | .box t x=>TG dst L ((levalA L x).bind LV.cells)
 | .build t ps=>Gi L ((lparts L ps.toList).bind (HO P t))
 | .buildSlice t len ps=>Yf P t dst L ((lparts L ps.toList).bind (DI P t len))
 | .load t a=>(levalA L a).bind fun p=>Tw P t p pos.late L
 | .store t a x=>(levalA L a).bind fun p=>(levalA L x).bind fun v=>Mb P t p v pos L
 | .nilCheck x=>JR L ((levalA L x).bind AGf)
 | .binOp op t x y _=>Gi L ((levalC L x).bind fun a=>(levalC L y).bind (Bq P op t a))
 | .unOp op _ x=>Gi L ((leval L x).bind (aun op))
 | .convert s t x=>Gi L ((leval L x).bind (Ox P s t))
 | .makeFunc (.func f) first cap=>JR L (((levalsA L first.toList).bind (·.mapM LV.la1)).bind fun a=>((levalsA L cap.toList).bind (·.mapM LV.la2)).map fun b=>WS f a b)
 | .slice t x lo hi mx=>Zr L (Vh P t (levalA L x) (lopt L lo) (lopt L hi) (lopt L mx)) ((levalR L x).bind fun v=>(lopt L lo).bind fun l=>(lopt L hi).bind fun h=>(lopt L mx).bind fun k=>GZ P t v l h k)
 | .fieldAddr t x f=>JR L ((levalA L x).bind fun v=>OQ P t v f)
 | .field t x f=>Gi L ((leval L x).bind fun v=>MO P t v f)
 | .indexAddr t x i=>JR L ((levalA L x).bind fun v=>(leval L i).bind (OD P t v))
 | .index t x i=>Gi L ((leval L x).bind fun v=>(leval L i).bind (LD P t v))
 | .extract t i=>Gi L ((leval L t).bind (TD i))
 | .call { callee:=.builtin .len,args:=as_,argTypes:=ts }=>Gi L ((levalsA L as_.toList).bind fun l=>match ts.toList,l with
  | t :: _,[.own _ _ es]=>MS P t (.slice .foreign es)
  | t :: _,[.v x]=>MS P t x
  | _,_=>none)
 | .call { callee:=.builtin .min,args:=as_,.. }=>Gi L ((levals L as_.toList).bind (Ls false))
 | .call { callee:=.builtin .max,args:=as_,.. }=>Gi L ((levals L as_.toList).bind (Ls true))
 | .call { callee:=.builtin .append,args:=as_,argTypes:=ts }=>match as_.toList,ts.toList with
  | [x,y],[t,xt]=>(levalA L x).bind fun vx=>if AHa vx=true then(levalA L y).bind fun vy=>YI P t xt vx vy dst pos.early L else(levalR L y).bind fun vy=>Hr P t xt vx vy dst pos.early L
  | _,_=>none
 | .makeMap _ none=>Ug dst L
 | .lookup t x i ok=>(levalA L x).bind fun p=>(leval L i).bind fun k=>Nr P t p k ok pos.late L
 | .mapUpdate t a k x=>(levalA L a).bind fun p=>(leval L k).bind fun kv=>(levalR L x).bind fun y=>KZ P t p kv y pos L
 | .insert t a k x=>(levalA L a).bind fun p=>(leval L k).bind fun kv=>(levalR L x).bind fun y=>KZ P t p kv y pos L
 | _=>none
mutual
def LA.av (ℓ:Nat→Nat):LA→AV
 | .a x=>x
 | .p t=>.ptr (ℓ t) 0
 | .m t=>.map (ℓ t)
 | .fn f first cap=>.func f (LAs.av ℓ first) (LAs.av ℓ cap)
def LAs.av (ℓ:Nat→Nat):List LA→List AV
 | []=>[]
 | x :: l=>LA.av ℓ x :: LAs.av ℓ l
end
def EF (ℓ:Nat→Nat) (ρ:Nat→Own):CV→AV→Prop
 | .v x,a=>a=x
 | .own i s es,a=>a=BZ i s (ρ i) es
 | .fn f first cap,a=>a=.func f (LAs.av ℓ first) (LAs.av ℓ cap)
 | .p t,a=>a=.ptr (ℓ t) 0
 | .m t,a=>a=.map (ℓ t)
 | .mp _,_=>False
 | .dead,_=>True
def Cs (ℓ:Nat→Nat) (ρ:Nat→Own) (cs:List CV) (as_:List AV):Prop:=as_.length=cs.length∧∀ (j:Nat) (c:CV) (a:AV),cs[j]?=some c→as_[j]?=some a→EF ℓ ρ c a
def FH (ℓ:Nat→Nat) (ρ:Nat→Own) (cs:List CV):Ck→Prop
 | .cells as_=>Cs ℓ ρ cs as_
 | .map es _=>cs=[.mp (es.map fun e=>(e.1,e.2.1))]
 | .loop _ _ _ _ _ _=>False
abbrev Fro:=List (Nat × Ck)
def RE (fr:Fro) (m:Mem):Prop:=∀ q∈fr,m.boxes[q.1]?=some q.2
def BK (P:Program) (fr:Fro) (ℓ:Nat→Nat) (ρ:Nat→Own):LV→AV→Prop
 | .v x,a=>a=x
 | .own i s es,a=>a=BZ i s (ρ i) es
 | .vref i s k off,a=>∃ id,ρ i=.row id∧a=.vptr id (k * s+off)
 | .vsub i s k n,a=>(n=0∧0<k∧a=.slice .foreign [])∨(¬ (n=0∧0<k)∧∃ id,ρ i=.row id∧a=.vec id (k * s) n s .opn)
 | .ag cs,a=>∃ as_,a=.agg as_∧Cs ℓ ρ cs as_
 | .lref t' off,a=>a=.ptr (ℓ t') off
 | .mref t',a=>a=.map (ℓ t')
 | .fn f first cap,a=>a=.func f (LAs.av ℓ first) (LAs.av ℓ cap)
 | .iter xs,a=>∃ fi first cap,a=.func fi first cap∧NL P fi first cap (RE fr) xs
 | .dead,_=>True
def LV.has (v:LV) (i s:Nat) (es:List AV):Prop :=
 match v with
 | .own i' s' es'=>i'=i∧s'=s∧es'=es
 | .ag cs=>CV.own i s es∈cs
 | _=>False
def Vis (L:AM) (i s:Nat) (es:List AV):Prop:=(∃ t v,AI L.S t=some v∧v.has i s es)∨∃ t cs,AI L.N t=some cs∧CV.own i s es∈cs
def Bt (R:List (Option (Nat × List AV))) (i:Nat) (o:Own) (s:Nat) (es:List AV):Prop :=
 if isV i=true then(o=.full∧es=[])∨∃ id,o=.row id∧R[id]?=some (some (0,flatC es))∧(∀ e∈es,e.cells.length=s)∧0<s
 else ZW R o es.length s
theorem Bt.row {R:List (Option (Nat × List AV))} {i s:Nat} {o:Own} {es:List AV} (h:Bt R i o s es):o=.full∨∃ id,o=.row id∧id<R.length:=by
 unfold Bt at h
 split at h
 ·rcases h with h | ⟨id,h1,h2,_⟩
  ·exact .inl h.1
  ·exact .inr ⟨id,h1,(List.getElem?_eq_some_iff.1 h2).1⟩
 ·rcases h with h | ⟨id,cs,h1,h2,_⟩
  ·exact .inl h
  ·exact .inr ⟨id,h1,(List.getElem?_eq_some_iff.1 h2).1⟩
theorem Bt.mono {R R':List (Option (Nat × List AV))} {i s:Nat} {o:Own} {es:List AV} (h:Bt R i o s es) (hr:∀ id,o=.row id→∀ x,R[id]?=some x→R'[id]?=some x):Bt R' i o s es:=by
 unfold Bt at h ⊢
 split
 ·rename_i hv
  rw[if_pos hv] at h
  rcases h with h | ⟨id,h1,h2,h3⟩
  ·exact .inl h
  ·exact .inr ⟨id,h1,hr id h1 _ h2,h3⟩
 ·rename_i hv
  rw[if_neg hv] at h
  rcases h with h | ⟨id,cs,h1,h2,h3⟩
  ·exact .inl h
  ·exact .inr ⟨id,cs,h1,hr id h1 _ h2,h3⟩
structure FM where
 base:Mem
 bs:List (Nat × Nat)
 R0:Nat→Prop
 hb:∀ p∈bs,2000000≤p.1
structure BP (P:Program) (fr:Fro) (ℓ:Nat→Nat) (ρ:Nat→Own) (c:FM) (L:AM) (env:List AV) (m:Mem):Prop where
 mode:m.mode=Bk
 slot:∀ t v,AI L.S t=some v→v≠.dead→∃ a,env[t]?=some a∧BK P fr ℓ ρ v a
 locs:∀ t cs,AI L.N t=some cs→∃ b,m.boxes[ℓ t]?=some b∧FH ℓ ρ cs b
 tok:∀ i s es,Vis L i s es→Bt m.rows i (ρ i) s es
 apart:∀ i s es j s' es',Vis L i s es→Vis L j s' es'→i≠j→ρ i=.full∨ρ i≠ρ j
 inj:∀ t t' cs cs',AI L.N t=some cs→AI L.N t'=some cs'→ℓ t=ℓ t'→t=t'
 bor:∀ p∈c.bs,(∃ cs,AI L.N p.1=some cs)∧ℓ p.1=p.2
 low:∀ t cs,AI L.N t=some cs→c.base.boxes.length≤ℓ t∨(∃ p∈c.bs,p.2=ℓ t)∨DQ≤t
 rlow:∀ i s es,Vis L i s es→∀ id,ρ i=.row id→c.base.rows.length≤id∨c.R0 id
 len:c.base.boxes.length≤m.boxes.length∧c.base.rows.length≤m.rows.length
 frame:∀ l b,c.base.boxes[l]?=some b→(∀ p∈c.bs,p.1<DQ→p.2≠l)→m.boxes[l]?=some b
 rframe:∀ id x,c.base.rows[id]?=some x→¬ c.R0 id→m.rows[id]?=some x
 froz:RE fr m∧∀ q∈fr,∀ t cs,AI L.N t=some cs→ℓ t≠q.1
def Rel (P:Program) (c:FM) (L:AM) (env:List AV) (m:Mem):Prop:=∃ fr ℓ ρ,BP P fr ℓ ρ c L env m
section
variable {P:Program} {fr:Fro} {ℓ:Nat→Nat} {ρ:Nat→Own} {c:FM} {L:AM} {env:List AV} {m:Mem}
theorem BP.leval (h:BP P fr ℓ ρ c L env m) {x:Operand} {a:AV} (hx:leval L x=some a):BF env x=some a:=by
 cases x with
 | tmp t =>
  simp only[G.leval] at hx
  obtain⟨v,h1,h2⟩:=AE hx
  cases v <;> simp only[LV.val] at h2 <;> try cases h2
  obtain⟨b,h3,h4⟩:=h.slot t _ h1 (by simp)
  simp only[BK] at h4
  subst h4
  exact h3
 | _=>exact hx
theorem BP.levals (h:BP P fr ℓ ρ c L env m) {l:List Operand} {as_:List AV} (hx:levals L l=some as_):EQ env l=some as_:=NA (fun x a h1=>h.leval h1) _ hx
theorem BP.lopt (h:BP P fr ℓ ρ c L env m) {x:Option Operand} {a:Option AV} (hx:lopt L x=some a):Jz env x=some a:=by
 cases x with
 | none=>exact hx
 | some x=>exact Kb (fun a h1=>h.leval h1) hx
inductive Fi:AV→AV→Prop
 | refl (a:AV):Fi a a
 | sl (o:Own) (es:List AV):Fi (.slice .foreign es) (.slice o es)
 | ag (cs cs':List AV) (hl:cs'.length=cs.length) (h:∀ (j:Nat) (c c':AV),cs[j]?=some c→cs'[j]?=some c'→c.strip1=c'.strip1∧c.one=c'.one):Fi (.agg cs) (.agg cs')
theorem Fi.mapStrip {cs cs':List AV} (hl:cs'.length=cs.length) (h:∀ (j:Nat) (c c':AV),cs[j]?=some c→cs'[j]?=some c'→c.strip1=c'.strip1∧c.one=c'.one):cs.map AV.strip1=cs'.map AV.strip1:=by
 apply List.ext_getElem?
 intro j
 simp only[List.getElem?_map]
 rcases Nat.lt_or_ge j cs.length with h1 | h1
 ·have h2:j<cs'.length:=by omega
  rw[List.getElem?_eq_getElem h1,List.getElem?_eq_getElem h2]
  simp only[Option.map_some]
  rw[(h j _ _ (List.getElem?_eq_getElem h1) (List.getElem?_eq_getElem h2)).1]
 ·rw[List.getElem?_eq_none h1,List.getElem?_eq_none (by omega)]
theorem Fi.strip {a a':AV} (h:Fi a a'):a.strip=a'.strip:=by
 cases h with
 | refl=>rfl
 | sl o es=>rfl
 | ag cs cs' hl h=>simp only[AV.strip];rw[Fi.mapStrip hl h]
theorem Fi.cells {a a':AV} (h:Fi a a'):a.cells.length=a'.cells.length∧Bj a=Bj a'∧a.cells.map AV.strip1=a'.cells.map AV.strip1:=by
 cases h with
 | refl=>exact⟨rfl,rfl,rfl⟩
 | sl o es=>exact⟨rfl,rfl,rfl⟩
 | ag cs cs' hl h=>exact⟨hl.symm,rfl,Fi.mapStrip hl h⟩
theorem rd_rel {cs:List CV} {as_ as':List AV} (h:cs.mapM CV.rd=some as_) (hr:Cs ℓ ρ cs as'):as'.length=as_.length∧∀ (j:Nat) (c c':AV),as_[j]?=some c→as'[j]?=some c'→c.strip1=c'.strip1∧c.one=c'.one:=by
 induction cs generalizing as_ as' with
 | nil =>
  simp at h;subst h
  have:=hr.1
  simp at this;subst this
  exact⟨rfl,fun j c c' h=>by simp at h⟩
 | cons x l ih =>
  simp only[List.mapM_cons,Option.pure_def,Option.bind_eq_bind] at h
  obtain⟨a,h1,h⟩:=AE h
  obtain⟨as2,h2,h⟩:=AE h
  injection h with h;subst h
  obtain⟨hl,hc⟩:=hr
  cases as' with
  | nil=>simp at hl
  | cons b bs' =>
   obtain⟨i1,i2⟩:=ih h2 ⟨by simpa using hl,fun j c d hj hd=>hc (j+1) c d (by simpa using hj) (by simpa using hd)⟩
   refine⟨by simpa using i1,fun j c c' hj hc'=>?_⟩
   cases j with
   | zero =>
    simp at hj hc';subst hj hc'
    have:=hc 0 x b rfl rfl
    cases x <;> simp only[CV.rd] at h1 <;> try cases h1
    ·simp only[EF] at this;subst this;exact⟨rfl,rfl⟩
    ·split at h1
     ·cases h1
     ·rename_i hv
      injection h1 with h1;subst h1
      simp only[EF,BZ,if_neg hv] at this;subst this;exact⟨rfl,rfl⟩
   | succ j=>exact i2 j c c' (by simpa using hj) (by simpa using hc')
theorem LV.rd_rel {v:LV} {a a':AV} (h:v.rd=some a) (hr:BK P fr ℓ ρ v a'):Fi a a':=by
 cases v <;> simp only[LV.rd] at h <;> try cases h
 ·simp only[BK] at hr;subst hr;exact .refl _
 ·split at h
  ·cases h
  ·rename_i hv
   injection h with h;subst h
   simp only[BK,BZ,if_neg hv] at hr;subst hr;exact .sl _ _
 ·rename_i cs
  obtain⟨as',rfl,hr⟩:=hr
  cases hcs:cs.mapM CV.rd with
  | none=>rw[hcs] at h;cases h
  | some as_ =>
   rw[hcs] at h;injection h with h;subst h
   obtain⟨h1,h2⟩:=G.rd_rel hcs hr
   exact .ag _ _ h1 h2
theorem BP.levalR (h:BP P fr ℓ ρ c L env m) {x:Operand} {a:AV} (hx:levalR L x=some a):∃ a',BF env x=some a'∧Fi a a':=by
 cases x with
 | tmp t =>
  simp only[G.levalR] at hx
  obtain⟨v,h1,h2⟩:=AE hx
  obtain⟨b,h3,h4⟩:=h.slot t _ h1 (by rintro rfl;cases h2)
  exact⟨b,h3,v.rd_rel h2 h4⟩
 | _=>exact⟨a,hx,.refl _⟩
theorem BP.lparts (h:BP P fr ℓ ρ c L env m):∀ {l:List (Nat × Operand)} {ps:List (Nat × AV)},lparts L l=some ps→∃ ps',JM env l=some ps'∧ps'.length=ps.length∧∀ (j:Nat) (p p':Nat × AV),ps[j]?=some p→ps'[j]?=some p'→p.1=p'.1∧Fi p.2 p'.2:=by
 intro l
 induction l with
 | nil=>intro as_ hx;simp[G.lparts] at hx;subst hx;exact⟨[],rfl,rfl,fun j a a' h=>by simp at h⟩
 | cons x l ih =>
  intro as_ hx
  simp only[G.lparts,List.mapM_cons,Option.pure_def,Option.bind_eq_bind] at hx
  obtain⟨q,h1,hx⟩:=AE hx
  obtain⟨as2,h2,hx⟩:=AE hx
  injection hx with hx;subst hx
  cases ha:G.levalR L x.2 with
  | none=>rw[ha] at h1;cases h1
  | some a =>
   rw[ha] at h1;injection h1 with h1;subst h1
   obtain⟨a',h3,h4⟩:=h.levalR ha
   obtain⟨as',h5,h6,h7⟩:=ih h2
   refine⟨(x.1,a') :: as',?_,by simp[h6],fun j c c' hj hc=>?_⟩
   ·simp only[JM,List.mapM_cons,Option.pure_def,Option.bind_eq_bind,h3,Option.bind_some,Option.map_some]
    rw[show l.mapM (fun p=>(BF env p.2).map (p.1,·))=some as' from h5];rfl
   ·cases j with
    | zero=>simp at hj hc;subst hj hc;exact⟨rfl,h4⟩
    | succ j=>exact h7 j c c' (by simpa using hj) (by simpa using hc)
def Lu (ps ps':List (Nat × AV)):Prop:=ps'.length=ps.length∧∀ (j:Nat) (p p':Nat × AV),ps[j]?=some p→ps'[j]?=some p'→p.1=p'.1∧Fi p.2 p'.2
theorem Lu.tail {p p':Nat × AV} {ps ps':List (Nat × AV)} (h:Lu (p :: ps) (p' :: ps')):(p.1=p'.1∧Fi p.2 p'.2)∧Lu ps ps' :=
 ⟨h.2 0 _ _ rfl rfl,by simpa using h.1,fun j a b ha hb=>h.2 (j+1) a b (by simpa using ha) (by simpa using hb)⟩
theorem Zc {places:Nat→Option (Nat × Nat)}:∀ {ps ps':List (Nat × AV)} {cells:List AV},Lu ps ps'→Gg places cells ps'=Gg places cells ps:=by
 intro ps
 induction ps with
 | nil=>intro ps' cells h;have:=h.1;simp at this;subst this;rfl
 | cons p ps ih =>
  intro ps' cells h
  cases ps' with
  | nil=>have:=h.1;simp at this
  | cons p' ps' =>
   obtain⟨⟨h1,h2⟩,h3⟩:=h.tail
   obtain⟨i,v⟩:=p
   obtain⟨i',v'⟩:=p'
   dsimp only at h1 h2
   subst h1
   obtain⟨c1,c2,c3⟩:=h2.cells
   simp only[Gg]
   rw[← c1,← c2,← c3]
   cases places i with
   | none=>rfl
   | some q =>
         dsimp only;split
         ·exact ih h3
         ·rfl
theorem ADU {t:TypeId} {ps ps':List (Nat × AV)} (h:Lu ps ps'):HO P t ps'=HO P t ps:=by
 unfold HO
 split
 ·rw[Zc h]
 ·split
  ·rw[Zc h]
  ·rfl
 ·rfl
theorem VS {t:TypeId} {len:Nat} {ps ps':List (Nat × AV)} (h:Lu ps ps'):DI P t len ps'=DI P t len ps:=by
 have e1:ps'.map (·.1)=ps.map (·.1):=by
  apply List.ext_getElem?;intro j
  simp only[List.getElem?_map]
  have hl:=h.1
  rcases Nat.lt_or_ge j ps.length with h1 | h1
  ·rw[List.getElem?_eq_getElem h1,List.getElem?_eq_getElem (by omega:j<ps'.length)]
   simp only[Option.map_some]
   rw[(h.2 j _ _ (List.getElem?_eq_getElem h1) (List.getElem?_eq_getElem (by omega))).1]
  ·rw[List.getElem?_eq_none h1,List.getElem?_eq_none (by omega)]
 have e2:(ps'.map fun p=>p.2.strip)=ps.map fun p=>p.2.strip:=by
  apply List.ext_getElem?;intro j
  simp only[List.getElem?_map]
  have hl:=h.1
  rcases Nat.lt_or_ge j ps.length with h1 | h1
  ·rw[List.getElem?_eq_getElem h1,List.getElem?_eq_getElem (by omega:j<ps'.length)]
   simp only[Option.map_some]
   rw[(h.2 j _ _ (List.getElem?_eq_getElem h1) (List.getElem?_eq_getElem (by omega))).2.strip]
  ·rw[List.getElem?_eq_none h1,List.getElem?_eq_none (by omega)]
 have e3:∀ s,(∀ p∈ps',p.2.cells.length=s∧Bj p.2=true) ↔ ∀ p∈ps,p.2.cells.length=s∧Bj p.2=true:=by
  intro s
  have hl:=h.1
  constructor
  ·intro hp p hm
   obtain⟨j,hj,rfl⟩:=List.getElem_of_mem hm
   have hj':j<ps'.length:=by omega
   have:=hp _ (List.getElem_mem hj')
   obtain⟨c1,c2,_⟩:=(h.2 j _ _ (List.getElem?_eq_getElem hj) (List.getElem?_eq_getElem hj')).2.cells
   rw[c1,c2];exact this
  ·intro hp p hm
   obtain⟨j,hj,rfl⟩:=List.getElem_of_mem hm
   have hj':j<ps.length:=by omega
   have:=hp _ (List.getElem_mem hj')
   obtain⟨c1,c2,_⟩:=(h.2 j _ _ (List.getElem?_eq_getElem hj') (List.getElem?_eq_getElem hj)).2.cells
   rw[← c1,← c2];exact this
 unfold DI
 simp only[e1,e2,e3]
theorem AD0 {t:TypeId} {x x':AV} (h:Fi x x') {l hi k:Option AV}:GZ P t x' l hi k=GZ P t x l hi k:=by
 cases h <;> unfold GZ <;> cases Bn P t <;> rfl
theorem Xf {t:TypeId} {o o':Own} {es:List AV} {i:AV}:EM P t (.slice o es) i=EM P t (.slice o' es) i:=by
 cases i with
 | atom v=>cases v <;> rfl
 | _=>rfl
end
end
end Go.Proofs.YtjnnhjgjecgomaaGreat.G
