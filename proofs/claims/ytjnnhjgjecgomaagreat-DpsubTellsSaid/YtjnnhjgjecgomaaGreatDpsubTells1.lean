/-
Part 1 of the proof of DpsubTells: merged by mkclaim.py (a program of this repo) out of texts of wip/g and printed models.
-/
import Derived.CallsIn
import Derived.RowKit3
import Derived.Below
import Derived.RangeFuncIn
import Derived.RangeFuncLeaves
import Derived.RangeFuncCalls
import Derived.Laws.Sem
import Derived.Laws.Append
set_option linter.unusedVariables false
set_option linter.unusedSimpArgs false
set_option maxHeartbeats 8000000
namespace Go.Proofs.YtjnnhjgjecgomaaGreat.G
section
inductive Own where
 | foreign
 | full
 | row (id:Nat)
 deriving DecidableEq
inductive Cap where
 | opn
 | full
 | any
 deriving DecidableEq
inductive AV where
 | atom (v:Value)
 | slice (own:Own) (es:List AV)
 | eptr (e:AV) (off:Nat)
 | ptr (l off:Nat)
 | func (f:FuncId) (first cap:List AV)
 | iface (t:TypeId) (v:AV)
 | agg (cs:List AV)
 | tuple (vs:List AV)
 | yield (l:Nat)
 | map (l:Nat)
 | vec (id off len sz:Nat) (k:Cap)
 | vptr (id off:Nat)
def Nl:Value→Bool
 | .bool _ | .int _ _ | .string _ | .pointer none | .map none | .nilFunc | .nilIface=>true
 | _=>false
def AV.cells:AV→List AV
 | .agg cs=>cs
 | v=>[v]
def AV.one:AV→Bool
 | .agg _ | .tuple _=>false
 | _=>true
abbrev AV.i64 (n:Int):AV:=.atom (.int .i64 n)
abbrev AV.u64 (n:Int):AV:=.atom (.int .u64 n)
abbrev AV.bool (b:Bool):AV:=.atom (.bool b)
abbrev AV.undef:AV:=.tuple []
def AV.strip1:AV→AV
 | .slice _ es=>.slice .foreign es
 | v=>v
def AV.strip:AV→AV
 | .slice _ es=>.slice .foreign es
 | .agg cs=>.agg (cs.map AV.strip1)
 | v=>v
def AV.stripR1:AV→AV
 | .agg cs=>.agg (cs.map AV.strip1)
 | v=>v
def AV.stripR:AV→AV
 | .agg cs=>.agg (cs.map AV.strip1)
 | .tuple vs=>.tuple (vs.map AV.stripR1)
 | v=>v
inductive Ck where
 | cells (cs:List AV)
 | loop (st:LoopState) (pending:Option Code) (tmps:List AV) (params:Array Tmp) (assign body:Code)
 | map (es:List (Value × AV × Nat)) (clock:Nat)
structure Mem where
 boxes:List Ck
 rows:List (Option (Nat × List AV))
 mode:TypeId→Bool:=fun _=>false
structure Gh where
 box:Nat→Option Nat
 row:Nat→Option (Option Nat)
 hw:Nat→Nat
def Imm (g:Gh) (b n:Nat):Prop:=(∀ l,g.box l≠some b)∧∀ id,g.row id=some (some b)→n≤g.hw id
def Ig (g:Gh) (w:World) (own:Own) (b o len cap sz:Nat):Prop :=
 match own with
 | .foreign=>True
 | .full=>cap=len
 | .row id=>g.row id≠none∧∀ b',g.row id=some (some b')→b'=b∧o=0∧∃ arr t,w.heap[b]?=some (.cells arr t (0,0))∧arr.size=cap * sz
inductive Rep (g:Gh) (w:World):AV→Value→Prop
 | atom (v:Value) (h:Nl v=true):Rep g w (.atom v) v
 | ptr (l off b:Nat) (h:g.box l=some b):Rep g w (.ptr l off) (.pointer (some ⟨b,off,none⟩))
 | yield (l b:Nat) (h:g.box l=some b):Rep g w (.yield l) (.func (.yield b) #[] #[])
 | map (l b:Nat) (h:g.box l=some b):Rep g w (.map l) (.map (some b))
 | vptr (id off:Nat) (a:Addr) (hs:a.spot=none) (hn:g.row id≠none) (ha:∀ b,g.row id=some (some b)→a=⟨b,off,none⟩):Rep g w (.vptr id off) (.pointer (some a))
 | vec (id off len sz:Nat) (k:Cap) (a:Addr) (cap:Nat) (hs:a.spot=none) (hz:0<sz) (hcap:len≤cap) (hf:k=.full→cap=len) (hn:g.row id≠none)
   (ha:∀ b,g.row id=some (some b)→a=⟨b,off,none⟩∧∃ arr t,w.heap[b]?=some (.cells arr t (0,0))∧off+cap * sz≤arr.size∧(k=.opn→off+cap * sz=arr.size)):Rep g w (.vec id off len sz k) (.slice (some a) len cap)
 | eptr (e:AV) (off b o:Nat) (vals:Nat→Value) (hi:Imm g b (o+e.cells.length)) (hc:∀ j,j<e.cells.length→w.cell? ⟨b,o+j,none⟩=some (vals j))
   (hr:∀ (j:Nat) (c:AV),e.cells[j]?=some c→Rep g w c (vals j)) (ho:∀ c∈e.cells,c.one=true) (hn:e.cells≠[]):Rep g w (.eptr e off) (.pointer (some ⟨b,o+off,none⟩))
 | func (f:FuncId) (first cap:List AV) (fs vs:Array Value) (hlf:fs.size=first.length) (hrf:∀ (j:Nat) (c:AV) (v:Value),first[j]?=some c→fs[j]?=some v→Rep g w c v)
   (hl:vs.size=cap.length) (hr:∀ (j:Nat) (c:AV) (v:Value),cap[j]?=some c→vs[j]?=some v→Rep g w c v):Rep g w (.func f first cap) (.func (.func f) fs vs)
 | iface (t:TypeId) (x:AV) (v:Value) (h:Rep g w x v):Rep g w (.iface t x) (.iface t v)
 | agg (cs:List AV) (vs:Array Value) (hl:vs.size=cs.length) (ho:∀ c∈cs,c.one=true) (hr:∀ (j:Nat) (c:AV) (v:Value),cs[j]?=some c→vs[j]?=some v→Rep g w c v):Rep g w (.agg cs) (.agg vs)
 | tuple (cs:List AV) (vs:Array Value) (hl:vs.size=cs.length) (hr:∀ (j:Nat) (c:AV) (v:Value),cs[j]?=some c→vs[j]?=some v→Rep g w c v):Rep g w (.tuple cs) (.tuple vs)
 | nil (own:Own) (a:Option Addr) (cap:Nat) (hown:∀ id,own≠.row id) (hf:own=.full→cap=0):Rep g w (.slice own []) (.slice a 0 cap)
 | slice (own:Own) (es:List AV) (b o cap sz:Nat) (vals:Nat→Value) (hz:0<sz) (hs:∀ e∈es,e.cells.length=sz) (hi:es≠[]→Imm g b (o+es.length * sz))
   (hc:∀ j,j<es.length * sz→w.cell? ⟨b,o+j,none⟩=some (vals j)) (hr:∀ (i j:Nat) (e c:AV),es[i]?=some e→e.cells[j]?=some c→Rep g w c (vals (i * sz+j)))
   (ho:∀ e∈es,∀ c∈e.cells,c.one=true) (hcap:es.length≤cap) (hown:Ig g w own b o es.length cap sz):Rep g w (.slice own es) (.slice (some ⟨b,o,none⟩) es.length cap)
def Bi (g:Gh) (w:World) (as_:List AV) (vs:Array Value):Prop:=vs.size=as_.length∧∀ (j:Nat) (a:AV) (v:Value),as_[j]?=some a→vs[j]?=some v→Rep g w a v
def Kn (g:Gh) (w:World) (b:Nat):Ck→Prop
 | .cells cs=>∃ vs t,w.heap[b]?=some (.cells vs t (0,0))∧Bi g w cs vs∧∀ c∈cs,c.one=true
 | .loop st pending tmps params assign body=>∃ vs d fn,w.heap[b]?=some (.loop { state:=st,pending,fn,tmps:=vs,params,assign,body,defers:=d })∧Bi g w tmps vs
 | .map es clock=>∃ vs:Array MapEntry,w.heap[b]?=some (.map vs clock)∧vs.size=es.length∧∀ (j:Nat) (k:Value) (a:AV) (n:Nat) (e:MapEntry),es[j]?=some (k,a,n)→vs[j]?=some e→e.key=k∧e.born=n∧Rep g w a e.val
def Nz (g:Gh) (w:World) (b:Nat) (cs:List AV):Prop:=∃ arr t,w.heap[b]?=some (.cells arr t (0,0))∧cs.length≤arr.size∧∀ (j:Nat) (c:AV),cs[j]?=some c→c.one=true∧∀ v,arr[j]?=some v→Rep g w c v
def tabs:List (Nat × List Value):=[]
def Mn (g:Gh) (w:World):Prop:=∀ q∈tabs,(∃ vs t,w.heap[q.1]?=some (.cells vs t (0,0))∧vs.toList=q.2)∧(∀ l,g.box l≠some q.1)∧∀ id,g.row id≠some (some q.1)
structure Aa (g:Gh) (m:Mem) (w:World):Prop where
 tab:Mn g w
 box:∀ l b,g.box l=some b→b<w.heap.size
 row:∀ id b,g.row id=some (some b)→b<w.heap.size
 boxOk:∀ l b c,g.box l=some b→m.boxes[l]?=some c→Kn g w b c
 rowCells:∀ id b,g.row id=some (some b)→∃ arr t,w.heap[b]?=some (.cells arr t (0,0))
 rowLive:∀ id n,m.rows[id]?=some (some n)→g.row id≠none→∃ b,g.row id=some (some b)∧g.hw id=n.1
 rowOk:∀ id b n cs,g.row id=some (some b)→m.rows[id]?=some (some (n,cs))→Nz g w b cs
 boxInj:∀ l l' b,g.box l=some b→g.box l'=some b→l=l'
 rowInj:∀ l l' b,g.row l=some (some b)→g.row l'=some (some b)→l=l'
 apart:∀ l id b,g.box l=some b→g.row id≠some (some b)
structure As (g:Gh) (m:Mem) (g':Gh) (m':Mem) (w w':World):Prop where
 os:w'.os=w.os
 tape:w'.tape=w.tape
 output:w'.output=w.output
 size:w.heap.size≤w'.heap.size
 boxes:m.boxes.length≤m'.boxes.length
 rows:m.rows.length≤m'.rows.length
 freshBox:∀ l,m.boxes.length≤l→l<m'.boxes.length→g.box l=none
 freshRow:∀ l,m.rows.length≤l→l<m'.rows.length→g.row l=none
 boxOld:∀ l,l<m.boxes.length∨m'.boxes.length≤l→g'.box l=g.box l
 boxNew:∀ l b,g'.box l=some b→g.box l=none→w.heap.size≤b
 rowOut:∀ l,m'.rows.length≤l→g'.row l=g.row l∧g'.hw l=g.hw l
 rowIn:∀ l b,l<m.rows.length→g'.row l=some (some b)→g.row l=some (some b)∧g.hw l≤g'.hw l
 rowStay:∀ l,l<m.rows.length→(g'.row l≠none ↔ g.row l≠none)
 rowNew:∀ l b,m.rows.length≤l→l<m'.rows.length→g'.row l=some (some b)→w.heap.size≤b∨∃ l0,l0<m.rows.length∧g.row l0=some (some b)∧g.hw l0≤g'.hw l
 same:∀ b,b<w.heap.size→(∀ l,l<m.boxes.length→g.box l≠some b)→(∀ l,l<m.rows.length→g.row l≠some (some b))→w'.heap[b]?=w.heap[b]?
 sameRow:∀ id b,id<m.rows.length→g.row id=some (some b)→∀ arr t,w.heap[b]?=some (.cells arr t (0,0))→∃ arr',w'.heap[b]?=some (.cells arr' t (0,0))∧arr'.size=arr.size∧∀ j,j<g.hw id→arr'[j]?=arr[j]?
theorem cell?_lt {w:World} {b o:Nat} {v:Value} (h:w.cell? ⟨b,o,none⟩=some v):b<w.heap.size:=by
 unfold World.cell? at h
 dsimp only at h
 split at h
 ·rename_i heq;exact(Array.getElem?_eq_some_iff.1 heq).1
 ·cases h
theorem cell?_of {w w':World} {b o:Nat} (h:w'.heap[b]?=w.heap[b]?):w'.cell? ⟨b,o,none⟩=w.cell? ⟨b,o,none⟩:=by
 unfold World.cell?
 dsimp only
 rw[h]
section
variable {g g':Gh} {m m':Mem} {w w':World}
theorem As.boxUp (h:As g m g' m' w w') {l b:Nat} (hb:g.box l=some b):g'.box l=some b:=by
 rcases Nat.lt_or_ge l m.boxes.length with h1 | h1
 ·rw[h.boxOld l (.inl h1)];exact hb
 ·rcases Nat.lt_or_ge l m'.boxes.length with h2 | h2
  ·rw[h.freshBox l h1 h2] at hb;cases hb
  ·rw[h.boxOld l (.inr h2)];exact hb
theorem As.rowMem (h:As g m g' m' w w') {l:Nat} (hb:g.row l≠none):g'.row l≠none:=by
 rcases Nat.lt_or_ge l m.rows.length with h1 | h1
 ·exact(h.rowStay l h1).2 hb
 ·rcases Nat.lt_or_ge l m'.rows.length with h2 | h2
  ·exact absurd (h.freshRow l h1 h2) hb
  ·rw[(h.rowOut l h2).1];exact hb
theorem As.boxDown (h:As g m g' m' w w') {l b:Nat} (hb:g'.box l=some b) (hlt:b<w.heap.size):g.box l=some b:=by
 cases hg:g.box l with
 | none=>have:=h.boxNew l b hb hg;omega
 | some c=>have:=h.boxUp hg;rw[hb] at this;exact this.symm
theorem As.rowDown (h:As g m g' m' w w') {l b:Nat} (hb:g'.row l=some (some b)) (hlt:b<w.heap.size):∃ l0,g.row l0=some (some b)∧g.hw l0≤g'.hw l:=by
 rcases Nat.lt_or_ge l m.rows.length with h1 | h1
 ·exact⟨l,h.rowIn l b h1 hb⟩
 ·rcases Nat.lt_or_ge l m'.rows.length with h2 | h2
  ·rcases h.rowNew l b h1 h2 hb with h3 | ⟨l0,_,h3,h4⟩
   ·omega
   ·exact⟨l0,h3,h4⟩
  ·obtain⟨h3,h4⟩:=h.rowOut l h2
   exact⟨l,by rw[← h3];exact hb,by rw[h4];exact Nat.le_refl _⟩
theorem As.rowSame (h:As g m g' m' w w') {l b:Nat} (hg:g.row l≠none) (hb:g'.row l=some (some b)):g.row l=some (some b)∧g.hw l≤g'.hw l:=by
 rcases Nat.lt_or_ge l m.rows.length with h1 | h1
 ·exact h.rowIn l b h1 hb
 ·rcases Nat.lt_or_ge l m'.rows.length with h2 | h2
  ·exact absurd (h.freshRow l h1 h2) hg
  ·obtain⟨h3,h4⟩:=h.rowOut l h2
   exact⟨by rw[← h3];exact hb,by rw[h4];exact Nat.le_refl _⟩
theorem Mn.step (h:Mn g w) (hs:As g m g' m' w w'):Mn g' w':=by
 intro q hq
 obtain⟨⟨vs,t,h1,h2⟩,h3,h4⟩:=h q hq
 have hlt:q.1<w.heap.size:=(Array.getElem?_eq_some_iff.1 h1).1
 exact⟨⟨vs,t,(hs.same _ hlt (fun l _=>h3 l) (fun l _=>h4 l)).trans h1,h2⟩,fun l e=>h3 l (hs.boxDown e hlt),fun id e=>let ⟨l0,e1,_⟩:=hs.rowDown e hlt;h4 l0 e1⟩
theorem As.imm (h:As g m g' m' w w') {b n:Nat} (hlt:b<w.heap.size) (hi:Imm g b n):Imm g' b n :=
 ⟨fun l hl=>hi.1 l (h.boxDown hl hlt),fun id hid=>let ⟨l0,h1,h2⟩:=h.rowDown hid hlt;Nat.le_trans (hi.2 l0 h1) h2⟩
theorem As.cell (h:As g m g' m' w w') {b n j:Nat} {v:Value} (hi:Imm g b n) (hj:j<n) (hm:Aa g m w) (hc:w.cell? ⟨b,j,none⟩=some v):w'.cell? ⟨b,j,none⟩=some v:=by
 have hlt:=cell?_lt hc
 by_cases hr:∃ id,id<m.rows.length∧g.row id=some (some b)
 ·obtain⟨id,hid,hb⟩:=hr
  obtain⟨arr,t,ha⟩:=hm.rowCells id b hb
  obtain⟨arr',ha',_,he⟩:=h.sameRow id b hid hb arr t ha
  have hw:j<g.hw id:=Nat.lt_of_lt_of_le hj (hi.2 id hb)
  unfold World.cell? at hc ⊢
  dsimp only at hc ⊢
  rw[ha] at hc
  rw[ha']
  dsimp only at hc ⊢
  rw[he j hw];exact hc
 ·rw[cell?_of (h.same b hlt (fun l _=>hi.1 l) (fun l hl hb=>hr ⟨l,hl,hb⟩))];exact hc
theorem As.ownOk (h:As g m g' m' w w') (hm:Aa g m w) {own:Own} {b o len cap sz:Nat} (ho:Ig g w own b o len cap sz):Ig g' w' own b o len cap sz:=by
 cases own with
 | foreign=>trivial
 | full=>exact ho
 | row id =>
  obtain⟨hne,ho⟩:=ho
  refine⟨h.rowMem hne,fun b' hb'=>?_⟩
  obtain⟨hb,_⟩:=h.rowSame hne hb'
  obtain⟨rfl,h0,arr,t,ha,hs⟩:=ho b' hb
  refine⟨rfl,h0,?_⟩
  by_cases hid:id<m.rows.length
  ·obtain⟨arr',ha',hz,_⟩:=h.sameRow id b' hid hb arr t ha
   exact⟨arr',t,ha',hz.trans hs⟩
  ·have hlt:b'<w.heap.size:=hm.row id b' hb
   refine⟨arr,t,?_,hs⟩
   rw[h.same b' hlt (fun l _ e=>hm.apart l id b' e hb) (fun l hl e=>hid (hm.rowInj l id b' e hb ▸ hl))];exact ha
theorem As.vecOk (h:As g m g' m' w w') (hm:Aa g m w) {id off cap sz:Nat} {k:Cap} {a:Addr} (hn:g.row id≠none)
  (ha:∀ b,g.row id=some (some b)→a=⟨b,off,none⟩∧∃ arr t,w.heap[b]?=some (.cells arr t (0,0))∧off+cap * sz≤arr.size∧(k=.opn→off+cap * sz=arr.size)) :
  ∀ b,g'.row id=some (some b)→a=⟨b,off,none⟩∧∃ arr t,w'.heap[b]?=some (.cells arr t (0,0))∧off+cap * sz≤arr.size∧(k=.opn→off+cap * sz=arr.size):=by
 intro b hb
 obtain⟨hb',_⟩:=h.rowSame hn hb
 obtain⟨rfl,arr,t,he,h1,h2⟩:=ha b hb'
 refine⟨rfl,?_⟩
 by_cases hid:id<m.rows.length
 ·obtain⟨arr',ha',hz,_⟩:=h.sameRow id b hid hb' arr t he
  exact⟨arr',t,ha',by rw[hz];exact h1,fun hf=>by rw[hz];exact h2 hf⟩
 ·have hlt:b<w.heap.size:=hm.row id b hb'
  refine⟨arr,t,?_,h1,h2⟩
  rw[h.same b hlt (fun l _ e=>hm.apart l id b e hb') (fun l hl e=>hid (hm.rowInj l id b e hb' ▸ hl))];exact he
theorem Rep.step {av:AV} {v:Value} (hr:Rep g w av v) (hm:Aa g m w) (h:As g m g' m' w w'):Rep g' w' av v:=by
 induction hr with
 | atom v hv=>exact .atom v hv
 | ptr l off b hb=>exact .ptr l off b (h.boxUp hb)
 | yield l b hb=>exact .yield l b (h.boxUp hb)
 | map l b hb=>exact .map l b (h.boxUp hb)
 | vptr id off a hs hn ha=>exact .vptr id off a hs (h.rowMem hn) (fun b hb=>ha b (h.rowSame hn hb).1)
 | vec id off len sz k a cap hs hz hcap hf hn ha=>exact .vec id off len sz k a cap hs hz hcap hf (h.rowMem hn) (h.vecOk hm hn ha)
 | eptr e off b o vals hi hc hr ho hn ih =>
  have hlt:b<w.heap.size:=by
   have:0<e.cells.length:=List.length_pos_iff.2 hn
   exact cell?_lt (hc 0 this)
  exact .eptr e off b o vals (h.imm hlt hi) (fun j hj=>h.cell hi (by omega) hm (hc j hj)) ih ho hn
 | func f first cap fs vs hlf hrf hl hr ihf ih=>exact .func f first cap fs vs hlf ihf hl ih
 | iface t x v hx ih=>exact .iface t x v ih
 | agg cs vs hl ho hr ih=>exact .agg cs vs hl ho ih
 | tuple cs vs hl hr ih=>exact .tuple cs vs hl ih
 | nil own a cap hown hf=>exact .nil own a cap hown hf
 | slice own es b o cap sz vals hz hs hi hc hr ho hcap hown ih =>
  have hlt:es≠[]→b<w.heap.size:=by
   intro hne
   have h1:0<es.length:=List.length_pos_iff.2 hne
   exact cell?_lt (hc 0 (Nat.mul_pos h1 hz))
  have hne:∀ j,j<es.length * sz→es≠[]:=by
   rintro j hj rfl
   simp at hj
  exact .slice own es b o cap sz vals hz hs (fun h0=>h.imm (hlt h0) (hi h0)) (fun j hj=>h.cell (hi (hne j hj)) (by omega) hm (hc j hj)) ih ho hcap (h.ownOk hm hown)
theorem Bi.step {as_:List AV} {vs:Array Value} (hr:Bi g w as_ vs) (hm:Aa g m w) (h:As g m g' m' w w'):Bi g' w' as_ vs :=
 ⟨hr.1,fun j a v ha hv=>(hr.2 j a v ha hv).step hm h⟩
theorem As.refl (g:Gh) (m:Mem) (w:World):As g m g m w w where
 os:=rfl
 tape:=rfl
 output:=rfl
 size:=Nat.le_refl _
 boxes:=Nat.le_refl _
 rows:=Nat.le_refl _
 freshBox:=fun l h1 h2=>by omega
 freshRow:=fun l h1 h2=>by omega
 boxOld:=fun _ _=>rfl
 boxNew:=fun l b h1 h2=>by rw[h2] at h1;cases h1
 rowOut:=fun _ _=>⟨rfl,rfl⟩
 rowIn:=fun _ _ _ h=>⟨h,Nat.le_refl _⟩
 rowStay:=fun _ _=>Iff.rfl
 rowNew:=fun l b h1 h2=>by omega
 same:=fun _ _ _ _=>rfl
 sameRow:=fun _ _ _ _ arr t h=>⟨arr,h,rfl,fun _ _=>rfl⟩
theorem As.trans {g'':Gh} {m'':Mem} {w'':World} (h:As g m g' m' w w') (k:As g' m' g'' m'' w' w'') (hm:Aa g m w):As g m g'' m'' w w'' where
 os:=k.os.trans h.os
 tape:=k.tape.trans h.tape
 output:=k.output.trans h.output
 size:=Nat.le_trans h.size k.size
 boxes:=Nat.le_trans h.boxes k.boxes
 rows:=Nat.le_trans h.rows k.rows
 freshBox:=fun l h1 h2=>by
  rcases Nat.lt_or_ge l m'.boxes.length with h3 | h3
  ·exact h.freshBox l h1 h3
  ·rw[← h.boxOld l (.inr h3)];exact k.freshBox l h3 h2
 freshRow:=fun l h1 h2=>by
  rcases Nat.lt_or_ge l m'.rows.length with h3 | h3
  ·exact h.freshRow l h1 h3
  ·rw[← (h.rowOut l h3).1];exact k.freshRow l h3 h2
 boxOld:=fun l hl=>by
  have hb:=h.boxes;have kb:=k.boxes
  rcases hl with hl | hl
  ·rw[k.boxOld l (.inl (by omega)),h.boxOld l (.inl hl)]
  ·rw[k.boxOld l (.inr hl),h.boxOld l (.inr (by omega))]
 boxNew:=fun l b h1 h2=>by
  cases hg:g'.box l with
  | none=>have:=k.boxNew l b h1 hg;have:=h.size;omega
  | some c=>have e:=k.boxUp hg;rw[h1] at e;cases e;exact h.boxNew l b hg h2
 rowOut:=fun l hl=>by
  have kr:=k.rows
  obtain⟨a,b⟩:=k.rowOut l hl
  obtain⟨c,d⟩:=h.rowOut l (by omega)
  exact⟨a.trans c,b.trans d⟩
 rowIn:=fun l b hl hb=>by
  have hr:=h.rows
  obtain⟨h1,h2⟩:=k.rowIn l b (by omega) hb
  obtain⟨h3,h4⟩:=h.rowIn l b hl h1
  exact⟨h3,Nat.le_trans h4 h2⟩
 rowStay:=fun l hl=>(k.rowStay l (Nat.lt_of_lt_of_le hl h.rows)).trans (h.rowStay l hl)
 rowNew:=fun l b h1 h2 hb=>by
  rcases Nat.lt_or_ge l m'.rows.length with h3 | h3
  ·obtain⟨h4,h5⟩:=k.rowIn l b h3 hb
   rcases h.rowNew l b h1 h3 h4 with h6 | ⟨l0,h6,h7,h8⟩
   ·exact .inl h6
   ·exact .inr ⟨l0,h6,h7,Nat.le_trans h8 h5⟩
  ·rcases k.rowNew l b h3 h2 hb with h6 | ⟨l1,h6,h7,h8⟩
   ·exact .inl (Nat.le_trans h.size h6)
   ·rcases Nat.lt_or_ge l1 m.rows.length with h9 | h9
    ·obtain⟨h10,h11⟩:=h.rowIn l1 b h9 h7
     exact .inr ⟨l1,h9,h10,Nat.le_trans h11 h8⟩
    ·rcases h.rowNew l1 b h9 h6 h7 with h10 | ⟨l0,h10,h11,h12⟩
     ·exact .inl h10
     ·exact .inr ⟨l0,h10,h11,Nat.le_trans h12 h8⟩
 same:=fun b hb h1 h2=>by
  have hs:=h.size
  rw[k.same b (by omega) (fun l hl e=>?_) (fun l hl e=>?_),h.same b hb h1 h2]
  ·have e':=h.boxDown e hb
   rcases Nat.lt_or_ge l m.boxes.length with h3 | h3
   ·exact h1 l h3 e'
   ·rw[h.freshBox l h3 hl] at e';cases e'
  ·rcases Nat.lt_or_ge l m.rows.length with h3 | h3
   ·exact h2 l h3 (h.rowIn l b h3 e).1
   ·rcases h.rowNew l b h3 hl e with h4 | ⟨l0,h4,h5,_⟩
    ·omega
    ·exact h2 l0 h4 h5
 sameRow:=fun id b hid hb arr t ha=>by
  obtain⟨arr',ha',hz,he⟩:=h.sameRow id b hid hb arr t ha
  have hlt:=hm.row id b hb
  have hs:=h.size
  by_cases hr:∃ l,l<m'.rows.length∧g'.row l=some (some b)
  ·obtain⟨l,hl,hbl⟩:=hr
   obtain⟨l0,h1,h2⟩:=h.rowDown hbl hlt
   have e:=hm.rowInj _ _ _ h1 hb
   subst e
   obtain⟨arr'',ha'',hz',he'⟩:=k.sameRow l b hl hbl arr' t ha'
   exact⟨arr'',ha'',hz'.trans hz,fun j hj=>(he' j (Nat.lt_of_lt_of_le hj h2)).trans (he j hj)⟩
  ·refine⟨arr',?_,hz,he⟩
   rw[k.same b (by omega) (fun l hl e=>hm.apart l id b (h.boxDown e hlt) hb) (fun l hl e=>hr ⟨l,hl,e⟩)]
   exact ha'
def DR (g:Gh) (m m':Mem):Prop:=(∀ l,m.boxes.length≤l→l<m'.boxes.length→g.box l=none)∧∀ l,m.rows.length≤l→l<m'.rows.length→g.row l=none
def Bx (m m':Mem):Prop:=m.boxes.length≤m'.boxes.length∧m.rows.length≤m'.rows.length
theorem Bx.refl (m:Mem):Bx m m:=⟨Nat.le_refl _,Nat.le_refl _⟩
theorem Bx.trans {m m' m'':Mem} (h:Bx m m') (k:Bx m' m''):Bx m m'':=⟨Nat.le_trans h.1 k.1,Nat.le_trans h.2 k.2⟩
theorem DR.left {m'':Mem} (h:DR g m m'') (k:Bx m' m''):DR g m m':=⟨fun l h1 h2=>h.1 l h1 (Nat.lt_of_lt_of_le h2 k.1),fun l h1 h2=>h.2 l h1 (Nat.lt_of_lt_of_le h2 k.2)⟩
theorem DR.right {m'':Mem} (h:DR g m m'') (s:As g m g' m' w w'):DR g' m' m'' :=
 ⟨fun l h1 h2=>by rw[s.boxOld l (.inr h1)];exact h.1 l (Nat.le_trans s.boxes h1) h2,fun l h1 h2=>by rw[(s.rowOut l h1).1];exact h.2 l (Nat.le_trans s.rows h1) h2⟩
end
theorem As.plain {g:Gh} {m:Mem} {w w':World} (ho:w'.os=w.os) (ht:w'.tape=w.tape) (hp:w'.output=w.output) (hs:w.heap.size≤w'.heap.size)
  (h:∀ b,b<w.heap.size→w'.heap[b]?=w.heap[b]?):As g m g m w w' :=
 { As.refl g m w with
  os:=ho
  tape:=ht
  output:=hp
  size:=hs
  boxNew:=fun l b h1 h2=>by rw[h2] at h1;cases h1
  rowNew:=fun l b h1 h2=>by omega
  same:=fun b hb _ _=>h b hb
  sameRow:=fun id b _ hb arr t ha=>⟨arr,by rw[h b (Array.getElem?_eq_some_iff.1 ha).1];exact ha,rfl,fun _ _=>rfl⟩ }
theorem Nz.step {g g':Gh} {m m':Mem} {w w':World} {b:Nat} {cs:List AV} (h:Nz g w b cs) (hm:Aa g m w) (hs:As g m g' m' w w') (he:w'.heap[b]?=w.heap[b]?):Nz g' w' b cs :=
 let ⟨arr,t,h1,h2,h3⟩:=h;⟨arr,t,he.trans h1,h2,fun j c hj=>⟨(h3 j c hj).1,fun v hv=>((h3 j c hj).2 v hv).step hm hs⟩⟩
theorem Kn.step {g g':Gh} {m m':Mem} {w w':World} {b:Nat} {c:Ck} (h:Kn g w b c) (hm:Aa g m w) (hs:As g m g' m' w w') (he:w'.heap[b]?=w.heap[b]?):Kn g' w' b c:=by
 cases c with
 | cells cs =>
  obtain⟨vs,t,h1,h2,h3⟩:=h
  exact⟨vs,t,he.trans h1,h2.step hm hs,h3⟩
 | loop st pending tmps params assign body =>
  obtain⟨vs,d,fn,h1,h2⟩:=h
  exact⟨vs,d,fn,he.trans h1,h2.step hm hs⟩
 | map es clock =>
  obtain⟨vs,h1,h2,h3⟩:=h
  exact⟨vs,he.trans h1,h2,fun j k a n e hj hv=>let ⟨x,y,z⟩:=h3 j k a n e hj hv;⟨x,y,z.step hm hs⟩⟩
theorem Aa.plain {g:Gh} {m:Mem} {w w':World} (hm:Aa g m w) (hs:As g m g m w w') (h:∀ b,b<w.heap.size→w'.heap[b]?=w.heap[b]?):Aa g m w' where
 tab:=hm.tab.step hs
 box:=fun l b hb=>Nat.lt_of_lt_of_le (hm.box l b hb) hs.size
 row:=fun l b hb=>Nat.lt_of_lt_of_le (hm.row l b hb) hs.size
 boxOk:=fun l b c hb hc=>(hm.boxOk l b c hb hc).step hm hs (h b (hm.box l b hb))
 rowCells:=fun id b hb=>let ⟨arr,t,h2⟩:=hm.rowCells id b hb;⟨arr,t,by rw[h b (hm.row id b hb)];exact h2⟩
 rowLive:=hm.rowLive
 rowOk:=fun id b n cs hb hc=>(hm.rowOk id b n cs hb hc).step hm hs (h b (hm.row id b hb))
 boxInj:=hm.boxInj
 rowInj:=hm.rowInj
 apart:=hm.apart
end
section
def Fw (ro:Option Nat):Fence:={ Fence.wide with round:=ro }
def FZ (g:Gh) (w:World) (B:Nat) (ds:List Deferred):Prop :=
 ds.Pairwise (fun d d'=>d.target≠d'.target) ∧
 ∀ d∈ds,∃ r,d = { target:=.collected r,args:=#[] }∧B≤r∧w.heap[r]?=some (.deferred (some []))∧(∀ l,g.box l≠some r)∧∀ l,g.row l≠some (some r)
def APR (P : Program) (f : FuncId) : Prop := ∃ fn, P.funcs[f]? = some fn ∧ (fn.name == "runtime.NumGoroutine") = false ∧ fn.body.isSome = true
def EB (P:Program) (f:FuncId) (args:List AV) (m:Mem) (r:AV) (m':Mem):Prop :=
 APR P f∧Bx m m'∧∀ (g:Gh) (w:World) (vs:Array Value),DR g m m'→Aa g m w→Bi g w args vs →
  CallsIn Fence.wide 0 P f vs w fun e w'=>∃ v g',e=.returned v∧As g m g' m' w w'∧Aa g' m' w'∧Rep g' w' r v
def QA (g:Gh) (lo ro:Option Nat):Prop:=(lo=none→ro=none)∧∀ l,lo=some l→∃ b,g.box l=some b∧ro=some b
theorem QA.up {g g':Gh} {m m':Mem} {w w':World} {lo ro:Option Nat} (h:QA g lo ro) (s:As g m g' m' w w'):QA g' lo ro:=⟨h.1,fun l hl=>let ⟨b,h1,h2⟩:=h.2 l hl;⟨b,s.boxUp h1,h2⟩⟩
theorem QA.none {g:Gh}:QA g none none:=⟨fun _=>rfl,fun l h=>by cases h⟩
def Bu (P:Program) (lo:Option Nat) (c:Code) (env:List AV) (m:Mem) (e:Exit) (env':List AV) (m':Mem):Prop :=
 Bx m m'∧∀ (ro:Option Nat) (g:Gh) (w:World) (a:Act),QA g lo ro→DR g m m'→Aa g m w→Bi g w env a.tmps →
  c.wpIn (Fw ro) 0 P (fun e' a' w'=>e'=e∧∃ g' ds,a'.defers=ds++a.defers∧FZ g' w' w.heap.size ds∧As g m g' m' w w'∧Aa g' m' w'∧Bi g' w' env' a'.tmps) a w
section
variable {g g':Gh} {m m':Mem} {w w':World} {P:Program} {lo:Option Nat}
theorem Rep.atom_inv {v v':Value} (h:Rep g w (.atom v) v'):v'=v:=by
 generalize hx:AV.atom v=x at h
 cases h <;> cases hx
 rfl
theorem FZ.nil {B:Nat}:FZ g w B []:=⟨.nil,fun d hd=>by cases hd⟩
theorem FZ.step {B:Nat} {ds:List Deferred} (h:FZ g w B ds) (hs:As g m g' m' w w'):FZ g' w' B ds :=
 ⟨h.1,fun d hd=>by
  obtain⟨r,h1,h2,h3,h4,h5⟩:=h.2 d hd
  have hlt:r<w.heap.size:=(Array.getElem?_eq_some_iff.1 h3).1
  exact⟨r,h1,h2,by rw[hs.same r hlt (fun l _=>h4 l) (fun l _=>h5 l)];exact h3,fun l hl=>h4 l (hs.boxDown hl hlt),fun l hl=>let ⟨l0,h6,_⟩:=hs.rowDown hl hlt;h5 l0 h6⟩⟩
theorem FZ.append {B B':Nat} {ds ds':List Deferred} (h:FZ g w B ds) (k:FZ g w B' ds') (hB:B≤B') (hd:∀ d∈ds,∀ d'∈ds',d'.target≠d.target):FZ g w B (ds'++ds) :=
 ⟨List.pairwise_append.2 ⟨k.1,h.1,fun d hd' d' hd''=>hd d' hd'' d hd'⟩,fun d hd=>by
  rcases List.mem_append.1 hd with h1 | h1
  ·obtain⟨r,a,b,c⟩:=k.2 d h1
   exact⟨r,a,Nat.le_trans hB b,c⟩
  ·exact h.2 d h1⟩
theorem FZ.join {g1 g2:Gh} {m1 m2:Mem} {w1 w2:World} {ds1 ds2:List Deferred} (hk1:FZ g1 w1 w.heap.size ds1) (hs1:As g m g1 m1 w w1) (hk2:FZ g2 w2 w1.heap.size ds2) (hs2:As g1 m1 g2 m2 w1 w2):FZ g2 w2 w.heap.size (ds2++ds1):=by
 refine(hk1.step hs2).append hk2 hs1.size ?_
 intro d hd d' hd'
 obtain⟨r,rfl,_,hr,_⟩:=hk1.2 d hd
 obtain⟨r',rfl,hB,_⟩:=hk2.2 d' hd'
 have hlt:r<w1.heap.size:=(Array.getElem?_eq_some_iff.1 hr).1
 intro e
 injection e with e
 omega
def KS (id:Nat):Exit→Exit
 | .exit id'=>if id'=id then .normal else .exit id'
 | e=>e
theorem Bu.skip (env:List AV) (m:Mem):Bu P lo .skip env m .normal env m :=
 ⟨Bx.refl m,fun ro g w a hro hf hm he=>wpIn_skip ⟨rfl,g,[],rfl,.nil,As.refl g m w,hm,he⟩⟩
theorem Bu.label (l:Nat) (env:List AV) (m:Mem):Bu P lo (.label l) env m .normal env m :=
 ⟨Bx.refl m,fun ro g w a hro hf hm he=>wpIn_label ⟨rfl,g,[],rfl,.nil,As.refl g m w,hm,he⟩⟩
theorem Bu.exit (id:Nat) (env:List AV) (m:Mem):Bu P lo (.exit id) env m (.exit id) env m :=
 ⟨Bx.refl m,fun ro g w a hro hf hm he=>wpIn_exit ⟨rfl,g,[],rfl,.nil,As.refl g m w,hm,he⟩⟩
theorem Bu.ret (env:List AV) (m:Mem):Bu P lo .ret env m .ret env m :=
 ⟨Bx.refl m,fun ro g w a hro hf hm he=>wpIn_ret ⟨rfl,g,[],rfl,.nil,As.refl g m w,hm,he⟩⟩
theorem Bu.seq {c d:Code} {env env1 env2:List AV} {m1 m2:Mem} {e:Exit} (h:Bu P lo c env m .normal env1 m1) (k:Bu P lo d env1 m1 e env2 m2):Bu P lo (.seq c d) env m e env2 m2:=by
 refine⟨h.1.trans k.1,fun ro g w a hro hf hm he=>wpIn_seq (wpIn_mono (h.2 ro g w a hro (hf.left k.1) hm he) ?_)⟩
 rintro e1 a1 w1 ⟨rfl,g1,ds1,hd1,hk1,hs1,hm1,he1⟩
 refine wpIn_mono (k.2 ro g1 w1 a1 (hro.up hs1) (hf.right hs1) hm1 he1) ?_
 rintro e2 a2 w2 ⟨rfl,g2,ds2,hd2,hk2,hs2,hm2,he2⟩
 exact⟨rfl,g2,ds2++ds1,by rw[hd2,hd1,List.append_assoc],FZ.join hk1 hs1 hk2 hs2,hs1.trans hs2 hm,hm2,he2⟩
theorem Bu.seq_out {c d:Code} {env env1:List AV} {m1:Mem} {e:Exit} (h:Bu P lo c env m e env1 m1) (hne:e≠.normal):Bu P lo (.seq c d) env m e env1 m1:=by
 refine⟨h.1,fun ro g w a hro hf hm he=>wpIn_seq (wpIn_mono (h.2 ro g w a hro hf hm he) ?_)⟩
 rintro e1 a1 w1 ⟨rfl,hq⟩
 cases e1 with
 | normal=>exact absurd rfl hne
 | _=>exact⟨rfl,hq⟩
theorem Kr {P:Program} {b:Frame} {a:Act} {k:List Item} {cs:List Frame} {w:World} {c:Code}:step P (lone (b.atR a (.code (.scope c) :: k)) cs w)=.next (lone (b.atR a (.code c :: .inScope c :: k)) cs w) :=
 step_lone_go (by simp[stepG,stepG.exec,Frame.atR])
theorem XP {P:Program} {b:Frame} {a:Act} {k:List Item} {cs:List Frame} {w:World} {c:Code}:step P (lone (b.atR a (.inScope c :: k)) cs w)=.next (lone (b.atR a k) cs w) :=
 step_lone_go (by simp[stepG,stepG.exec,Frame.atR])
theorem ACA {F:Fence} {n:Nat} {P:Program} {Q:Exit→Act→World→Prop} {a:Act} {w:World} {c:Code} (h:c.wpIn F n P (fun e a w=>(∀ l,e≠.goto l)∧Q e a w) a w):(Code.scope c).wpIn F n P Q a w:=by
 intro b k cs hro hb hr
 have h0:(lone (b.atR a (.code (.scope c) :: k)) cs w).fenced P F:=fenced_calm hb hr rfl
 obtain⟨e,a₁,w₁,⟨hg,hq⟩,harr⟩:=h b (.inScope c :: k) cs hro hb hr
 cases e with
 | normal=>exact⟨.normal,a₁,w₁,hq,.head h0 Kr (StepsIn.trans harr (.one (fenced_calm hb hr rfl) XP))⟩
 | exit id =>
  have hx:exitTo id (.inScope c :: k)=exitTo id k:=by simp[exitTo]
  exact⟨.exit id,a₁,w₁,hq,fun k' hk=>.head h0 Kr (harr.1 k' (by rw[hx];exact hk)),fun hr' hk=>let ⟨k₁,h1,h2⟩:=harr.2 hr' (by rw[hx];exact hk);⟨k₁,h1,.head h0 Kr h2⟩⟩
 | goto l=>exact absurd rfl (hg l)
 | _=>exact⟨_,a₁,w₁,hq,.of_steps (.one h0 Kr) harr⟩
def Qj:Exit→Bool
 | .goto _=>false
 | _=>true
theorem Bu.scope {c:Code} {env env1:List AV} {m1:Mem} {e:Exit} (hj:Qj e=true) (h:Bu P lo c env m e env1 m1):Bu P lo (.scope c) env m e env1 m1:=by
 refine⟨h.1,fun ro g w a hro hf hm he=>ACA (wpIn_mono (h.2 ro g w a hro hf hm he) ?_)⟩
 rintro e1 a1 w1 ⟨rfl,hq⟩
 exact⟨fun l hl=>by(subst hl;cases hj),rfl,hq⟩
theorem Bu.block {id:Nat} {c:Code} {env env1:List AV} {m1:Mem} {e:Exit} (h:Bu P lo c env m e env1 m1):Bu P lo (.block id c) env m (KS id e) env1 m1:=by
 refine⟨h.1,fun ro g w a hro hf hm he=>wpIn_block (wpIn_mono (h.2 ro g w a hro hf hm he) ?_)⟩
 rintro e1 a1 w1 ⟨rfl,hq⟩
 cases e1 with
 | exit id' =>
  by_cases hid:id'=id
  ·subst hid;simp only[Exit.inBlock,if_true,KS];exact⟨trivial,hq⟩
  ·simp only[Exit.inBlock,if_neg hid,KS];exact⟨trivial,hq⟩
 | _=>exact⟨rfl,hq⟩
theorem Bu.cond {c:Operand} {t:Nat} {x y:Code} {b:Bool} {env env1:List AV} {m1:Mem} {e:Exit} (hc:c=.tmp t) (hb:env[t]?=some (.bool b)) (h:Bu P lo (if b then x else y) env m e env1 m1):Bu P lo (.cond c x y) env m e env1 m1:=by
 refine⟨h.1,fun ro g w a hro hf hm he=>wpIn_cond (t:=b) ?_ (h.2 ro g w a hro hf hm he)⟩
 subst hc
 obtain⟨hl,hr⟩:=he
 have hlt:t<env.length:=(List.getElem?_eq_some_iff.1 hb).1
 have hv:a.tmps[t]?=some a.tmps[t]:=Array.getElem?_eq_getElem (by omega)
 have:=(hr t _ _ hb hv).atom_inv
 show a.tmps.getD t undef=_
 rw[Array.getD_eq_getD_getElem?,hv,Option.getD_some,this]
end
def UX (F:Fence) (n:Nat) (P:Program) (c:Code) (Q:Exit→Act→World→Prop) (a:Act) (w:World):Prop :=
 ∀ (b:Frame) (k:List Item) (cs:List Frame),b.roundOf=F.round→F.fn b.fn→F.room (cs.length+1+n) →
  ∃ e a' w',Q e a' w'∧ArrivesIn (Machine.fenced P F) P (lone (b.atR a (.code c :: .inLoop c :: k)) cs w) b k cs e a' w'
theorem WG {F:Fence} {n:Nat} {P:Program} {Q:Exit→Act→World→Prop} {a:Act} {w:World} {c:Code} (h:UX F n P c Q a w):(Code.loop c).wpIn F n P Q a w :=
 fun b k cs hro hb hr=>let ⟨e,a',w',hq,harr⟩:=h b k cs hro hb hr;⟨e,a',w',hq,.of_steps (.one (fenced_calm hb hr rfl) stepR_loop) harr⟩
theorem Sa {F:Fence} {n:Nat} {P:Program} {Q:Exit→Act→World→Prop} {a:Act} {w:World} {c:Code} (h:c.wpIn F n P (Exit.then (UX F n P c Q) Q) a w):UX F n P c Q a w:=by
 intro b k cs hro hb hr
 obtain⟨e,a₁,w₁,hq,harr⟩:=h b (.inLoop c :: k) cs hro hb hr
 cases e with
 | normal =>
  obtain⟨e₂,a₂,w₂,hq₂,harr₂⟩:=hq b k cs hro hb hr
  exact⟨e₂,a₂,w₂,hq₂,.of_steps (StepsIn.trans harr (.one (fenced_calm hb hr rfl) stepR_inLoop)) harr₂⟩
 | exit id=>exact⟨_,a₁,w₁,hq,.pass (x:=.inLoop c) rfl (fun _ _=>.inl (by simp)) harr⟩
 | goto l=>exact⟨_,a₁,w₁,hq,.pass (x:=.inLoop c) rfl (fun _ _=>.inl (by simp)) harr⟩
 | ret=>exact⟨_,a₁,w₁,hq,.pass (x:=.inLoop c) rfl (fun _ _=>.inl (by simp)) harr⟩
 | panic ch=>exact⟨_,a₁,w₁,hq,.pass (x:=.inLoop c) rfl (fun _ _=>.inl (by simp)) harr⟩
 | outgrown=>exact⟨_,a₁,w₁,hq,.pass (x:=.inLoop c) rfl (fun _ _=>.inl (by simp)) harr⟩
def Kp (P:Program) (lo:Option Nat) (c:Code) (env:List AV) (m:Mem) (e:Exit) (env':List AV) (m':Mem):Prop :=
 Bx m m'∧∀ (ro:Option Nat) (g:Gh) (w:World) (a:Act),QA g lo ro→DR g m m'→Aa g m w→Bi g w env a.tmps →
  UX (Fw ro) 0 P c (fun e' a' w'=>e'=e∧∃ g' ds,a'.defers=ds++a.defers∧FZ g' w' w.heap.size ds∧As g m g' m' w w'∧Aa g' m' w'∧Bi g' w' env' a'.tmps) a w
section
variable {m:Mem} {P:Program} {lo:Option Nat}
theorem Bu.loop {c:Code} {env env1:List AV} {m1:Mem} {e:Exit} (h:Kp P lo c env m e env1 m1):Bu P lo (.loop c) env m e env1 m1 :=
 ⟨h.1,fun ro g w a hro hf hm he=>WG (h.2 ro g w a hro hf hm he)⟩
theorem Kp.out {c:Code} {env env1:List AV} {m1:Mem} {e:Exit} (h:Bu P lo c env m e env1 m1) (hne:e≠.normal):Kp P lo c env m e env1 m1:=by
 refine⟨h.1,fun ro g w a hro hf hm he=>Sa (wpIn_mono (h.2 ro g w a hro hf hm he) ?_)⟩
 rintro e1 a1 w1 ⟨rfl,hq⟩
 cases e1 with
 | normal=>exact absurd rfl hne
 | _=>exact⟨rfl,hq⟩
theorem Kp.round {c:Code} {env env1 env2:List AV} {m1 m2:Mem} {e:Exit} (h:Bu P lo c env m .normal env1 m1) (k:Kp P lo c env1 m1 e env2 m2):Kp P lo c env m e env2 m2:=by
 refine⟨h.1.trans k.1,fun ro g w a hro hf hm he=>Sa (wpIn_mono (h.2 ro g w a hro (hf.left k.1) hm he) ?_)⟩
 rintro e1 a1 w1 ⟨rfl,g1,ds1,hd1,hk1,hs1,hm1,he1⟩
 intro b kk cs hrb hb hr
 obtain⟨e2,a2,w2,⟨rfl,g2,ds2,hd2,hk2,hs2,hm2,he2⟩,harr⟩:=k.2 ro g1 w1 a1 (hro.up hs1) (hf.right hs1) hm1 he1 b kk cs hrb hb hr
 exact⟨e2,a2,w2,⟨rfl,g2,ds2++ds1,by rw[hd2,hd1,List.append_assoc],FZ.join hk1 hs1 hk2 hs2,hs1.trans hs2 hm,hm2,he2⟩,harr⟩
end
end
section
def Dl (w:World) (b:Nat) (o:Obj):World:={ w with heap:=w.heap.setIfInBounds b o }
theorem EG (w:World) (b:Nat) (o:Obj) (h:b<w.heap.size):(Dl w b o).heap[b]?=some o:=by simp[Dl,h]
theorem DW (w:World) (b b':Nat) (o:Obj) (h:b'≠b):(Dl w b o).heap[b']?=w.heap[b']?:=by
 simp only[Dl,Array.getElem?_setIfInBounds]
 rw[if_neg (fun e=>h e.symm)]
theorem Ia (w:World) (b:Nat) (o:Obj):(Dl w b o).heap.size=w.heap.size:=by simp[Dl]
theorem ADl (w:World) (b:Nat) (o o':Obj):Dl (Dl w b o) b o'=Dl w b o':=by simp[Dl]
def Gh.newBox (g:Gh) (l b:Nat):Gh:={ g with box:=fun l'=>if l'=l then some b else g.box l' }
def Gh.newRow (g:Gh) (l b n:Nat):Gh:={ g with row:=fun l'=>if l'=l then some (some b) else g.row l',hw:=fun l'=>if l'=l then n else g.hw l' }
def Gh.killRow (g:Gh) (l:Nat):Gh:={ g with row:=fun l'=>if l'=l then(g.row l).map (fun _=>none) else g.row l' }
def Mem.push (m:Mem) (c:Ck):Mem:={ m with boxes:=m.boxes++[c] }
def Mem.set (m:Mem) (l:Nat) (c:Ck):Mem:={ m with boxes:=m.boxes.set l c }
def Mem.pushRow (m:Mem) (n:Nat) (cs:List AV:=[]):Mem:={ m with rows:=m.rows++[some (n,cs)] }
def Mem.setRow (m:Mem) (l:Nat) (n:Nat) (cs:List AV):Mem:={ m with rows:=m.rows.set l (some (n,cs)) }
def Mem.retire (m:Mem) (l:Nat):Mem:={ m with rows:=m.rows.set l none }
section
variable {g:Gh} {m:Mem} {w:World} {P:Program}
theorem EX (w:World) (o:Obj) {b:Nat} (h:b<w.heap.size):(w.alloc o).heap[b]?=w.heap[b]?:=by
 simp only[World.alloc,Array.getElem?_push]
 rw[if_neg (by omega)]
theorem FF (w:World) (o:Obj):(w.alloc o).heap[w.heap.size]?=some o:=by
 simp only[World.alloc,Array.getElem?_push,if_true]
theorem JE (o:Obj) (c:Ck) (hf:DR g m (m.push c)) (hm:Aa g m w):As g m (g.newBox m.boxes.length w.heap.size) (m.push c) w (w.alloc o) where
 os:=rfl
 tape:=rfl
 output:=rfl
 size:=by simp
 boxes:=by simp[Mem.push]
 rows:=Nat.le_refl _
 freshBox:=hf.1
 freshRow:=hf.2
 boxOld:=fun l hl=>by
  have:l≠m.boxes.length:=by simp[Mem.push] at hl;omega
  simp[Gh.newBox,this]
 boxNew:=fun l b h1 h2=>by
  simp only[Gh.newBox] at h1
  split at h1
  ·injection h1 with h1;omega
  ·rw[h2] at h1;cases h1
 rowOut:=fun _ _=>⟨rfl,rfl⟩
 rowIn:=fun _ _ _ h=>⟨h,Nat.le_refl _⟩
 rowStay:=fun _ _=>Iff.rfl
 rowNew:=fun l b h1 h2=>by simp[Mem.push] at h2;omega
 same:=fun b hb _ _=>EX w o hb
 sameRow:=fun id b _ hb arr t ha=>⟨arr,by rw[EX w o (hm.row id b hb)];exact ha,rfl,fun _ _=>rfl⟩
theorem Le (o:Obj) (c:Ck) (hf:DR g m (m.push c)) (hm:Aa g m w) (hc:Kn (g.newBox m.boxes.length w.heap.size) (w.alloc o) w.heap.size c) :
  Aa (g.newBox m.boxes.length w.heap.size) (m.push c) (w.alloc o):=by
 have hs:=JE o c hf hm
 exact {
  tab:=hm.tab.step hs
  box:=fun l b hb=>by
   simp only[Gh.newBox] at hb
   split at hb
   ·injection hb with hb;simp;omega
   ·have:=hm.box l b hb;simp;omega
  row:=fun l b hb=>by have:=hm.row l b hb;simp;omega
  boxOk:=fun l b c' hb hc'=>by
   simp only[Gh.newBox] at hb
   split at hb
   ·rename_i hl
    injection hb with hb
    subst hl hb
    have:c'=c:=by simpa [Mem.push] using hc'.symm
    subst this;exact hc
   ·rename_i hl
    have h1:m.boxes[l]?=some c':=by
     simp only[Mem.push] at hc'
     rcases Nat.lt_or_ge l m.boxes.length with h2 | h2
     ·rwa [List.getElem?_append_left h2] at hc'
     ·rw[List.getElem?_append_right h2] at hc'
      have:l - m.boxes.length≠0:=by omega
      rw[List.getElem?_eq_none (by simp;omega)] at hc';cases hc'
    exact(hm.boxOk l b c' hb h1).step hm hs (EX w o (hm.box l b hb))
  rowCells:=fun id b hb=>by
   obtain⟨arr,t,h2⟩:=hm.rowCells id b hb
   exact⟨arr,t,by rw[EX w o (hm.row id b hb)];exact h2⟩
  rowLive:=hm.rowLive
  rowOk:=fun id b n cs hb hc=>(hm.rowOk id b n cs hb hc).step hm hs (EX w o (hm.row id b hb))
  boxInj:=fun l l' b h1 h2=>by
   simp only[Gh.newBox] at h1 h2
   split at h1 <;> split at h2
   ·omega
   ·injection h1 with h1;have:=hm.box l' b h2;omega
   ·injection h2 with h2;have:=hm.box l b h1;omega
   ·exact hm.boxInj l l' b h1 h2
  rowInj:=hm.rowInj
  apart:=fun l id b h1 h2=>by
   simp only[Gh.newBox] at h1
   split at h1
   ·injection h1 with h1;have:=hm.row id b h2;omega
   ·exact hm.apart l id b h1 h2 }
theorem JF {l b:Nat} (o:Obj) (c:Ck) (hb:g.box l=some b) (hl:l<m.boxes.length) (hm:Aa g m w):As g m g (m.set l c) w (Dl w b o) where
 os:=rfl
 tape:=rfl
 output:=rfl
 size:=by simp[Dl]
 boxes:=by simp[Mem.set]
 rows:=Nat.le_refl _
 freshBox:=fun l' h1 h2=>by simp[Mem.set] at h2;omega
 freshRow:=fun l' h1 h2=>by simp[Mem.set] at h2;omega
 boxOld:=fun _ _=>rfl
 boxNew:=fun l b h1 h2=>by rw[h2] at h1;cases h1
 rowOut:=fun _ _=>⟨rfl,rfl⟩
 rowIn:=fun _ _ _ h=>⟨h,Nat.le_refl _⟩
 rowStay:=fun _ _=>Iff.rfl
 rowNew:=fun l b h1 h2=>by simp[Mem.set] at h2;omega
 same:=fun b' hb' h1 _=>DW w b b' o (fun e=>h1 l hl (e ▸ hb))
 sameRow:=fun id b' _ hb' arr t ha=>⟨arr,by rw[DW w b b' o (fun e=>hm.apart l id b hb (e ▸ hb'))];exact ha,rfl,fun _ _=>rfl⟩
theorem LZ {l b:Nat} (o:Obj) (c:Ck) (hb:g.box l=some b) (hl:l<m.boxes.length) (hm:Aa g m w) (hc:Kn g (Dl w b o) b c):Aa g (m.set l c) (Dl w b o):=by
 have hs:=JF o c hb hl hm
 exact {
  tab:=hm.tab.step hs
  box:=fun l b hb=>by rw[Ia];exact hm.box l b hb
  row:=fun l b hb=>by rw[Ia];exact hm.row l b hb
  boxOk:=fun l' b' c' hb' hc'=>by
   simp only[Mem.set,List.getElem?_set] at hc'
   split at hc'
   ·rename_i hll
    subst hll
    rw[hb] at hb';injection hb' with hb';subst hb'
    have e:c=c':=by
     have:m.boxes.length > l:=hl
     simpa [this] using hc'
    subst e
    exact hc
   ·rename_i hll
    exact(hm.boxOk l' b' c' hb' hc').step hm hs (DW w b b' o (fun e=>hll (hm.boxInj l l' b hb (e ▸ hb'))))
  rowCells:=fun id b' hb'=>by
   obtain⟨arr,t,h2⟩:=hm.rowCells id b' hb'
   exact⟨arr,t,by rw[DW w b b' o (fun e=>hm.apart l id b hb (e ▸ hb'))];exact h2⟩
  rowLive:=hm.rowLive
  rowOk:=fun id b' n cs hb' hc'=>(hm.rowOk id b' n cs hb' hc').step hm hs (DW w b b' o (fun e=>hm.apart l id b hb (e ▸ hb')))
  boxInj:=hm.boxInj
  rowInj:=hm.rowInj
  apart:=hm.apart }
theorem Ko (o:Obj) (n:Nat) (ks:List AV) (hf:DR g m (m.pushRow n ks)) (hm:Aa g m w):As g m (g.newRow m.rows.length w.heap.size n) (m.pushRow n ks) w (w.alloc o) where
 os:=rfl
 tape:=rfl
 output:=rfl
 size:=by simp
 boxes:=Nat.le_refl _
 rows:=by simp[Mem.pushRow]
 freshBox:=hf.1
 freshRow:=hf.2
 boxOld:=fun l hl=>rfl
 boxNew:=fun l b h1 h2=>by
  simp only[Gh.newRow] at h1
  rw[h2] at h1;cases h1
 rowOut:=fun l hl=>by
  have:l≠m.rows.length:=by simp[Mem.pushRow] at hl;omega
  simp[Gh.newRow,this]
 rowIn:=fun l b hl hb=>by
  have:l≠m.rows.length:=by omega
  simp only[Gh.newRow,if_neg this] at hb ⊢
  exact⟨hb,Nat.le_refl _⟩
 rowStay:=fun l hl=>by
  have:l≠m.rows.length:=by omega
  simp[Gh.newRow,this]
 rowNew:=fun l b h1 h2 hb=>by
  have:l=m.rows.length:=by simp[Mem.pushRow] at h2;omega
  simp only[Gh.newRow,if_pos this] at hb
  injection hb with hb;injection hb with hb
  exact .inl (Nat.le_of_eq hb)
 same:=fun b hb _ _=>EX w o hb
 sameRow:=fun id b _ hb arr t ha=>⟨arr,by rw[EX w o (hm.row id b hb)];exact ha,rfl,fun _ _=>rfl⟩
theorem Oq (arr:Array Value) (t:TypeId) (n:Nat) (ks:List AV) (hf:DR g m (m.pushRow n ks)) (hm:Aa g m w) (hl:ks.length≤arr.size) (hk:∀ (j:Nat) (c:AV),ks[j]?=some c→c.one=true∧∀ v,arr[j]?=some v→Rep g w c v) :
  Aa (g.newRow m.rows.length w.heap.size n) (m.pushRow n ks) (w.alloc (.cells arr t (0,0))):=by
 have hs:=Ko (.cells arr t (0,0)) n ks hf hm
 have hrow:∀ l b,(g.newRow m.rows.length w.heap.size n).row l=some (some b)→(l=m.rows.length∧b=w.heap.size)∨(l≠m.rows.length∧g.row l=some (some b)):=by
  intro l b hb
  simp only[Gh.newRow] at hb
  split at hb
  ·rename_i hl
   injection hb with hb;injection hb with hb;exact .inl ⟨hl,hb.symm⟩
  ·rename_i hl
   exact .inr ⟨hl,hb⟩
 exact {
  tab:=hm.tab.step hs
  box:=fun l b hb=>by have:=hm.box l b hb;simp;omega
  row:=fun l b hb=>by
   rcases hrow l b hb with⟨_,h⟩|⟨_,h⟩
   ·simp;omega
   ·have:=hm.row l b h;simp;omega
  boxOk:=fun l b c' hb hc'=>(hm.boxOk l b c' hb hc').step hm hs (EX w (.cells arr t (0,0)) (hm.box l b hb))
  rowCells:=fun l b hb=>by
   rcases hrow l b hb with⟨_,rfl⟩|⟨_,h⟩
   ·exact⟨arr,t,FF _ _⟩
   ·obtain⟨a1,t1,h1⟩:=hm.rowCells l b h
    exact⟨a1,t1,by rw[EX w (.cells arr t (0,0)) (hm.row l b h)];exact h1⟩
  rowLive:=fun id n' hn hne=>by
   by_cases hid:id=m.rows.length
   ·subst hid
    have:n'=(n,ks):=by simpa [Mem.pushRow] using hn.symm
    subst this
    exact⟨w.heap.size,by simp[Gh.newRow],by simp[Gh.newRow]⟩
   ·have h1:m.rows[id]?=some (some n'):=by
     simp only[Mem.pushRow] at hn
     rcases Nat.lt_or_ge id m.rows.length with h2 | h2
     ·rwa [List.getElem?_append_left h2] at hn
     ·rw[List.getElem?_append_right h2,List.getElem?_eq_none (by simp;omega)] at hn;cases hn
    simp only[Gh.newRow,if_neg hid] at hne ⊢
    exact hm.rowLive id n' h1 hne
  rowOk:=fun id b n' cs hb hc=>by
   rcases hrow id b hb with⟨rfl,rfl⟩|⟨hid,h⟩
   ·have:(n',cs)=(n,ks):=by simpa [Mem.pushRow] using hc.symm
    injection this with h1 h2
    subst h1 h2
    exact⟨arr,t,FF _ _,hl,fun j c hj=>⟨(hk j c hj).1,fun v hv=>((hk j c hj).2 v hv).step hm hs⟩⟩
   ·have h1:m.rows[id]?=some (some (n',cs)):=by
     simp only[Mem.pushRow] at hc
     rcases Nat.lt_or_ge id m.rows.length with h2 | h2
     ·rwa [List.getElem?_append_left h2] at hc
     ·rw[List.getElem?_append_right h2,List.getElem?_eq_none (by simp;omega)] at hc;cases hc
    exact(hm.rowOk id b n' cs h h1).step hm hs (EX w (.cells arr t (0,0)) (hm.row id b h))
  boxInj:=hm.boxInj
  rowInj:=fun l l' b h1 h2=>by
   rcases hrow l b h1 with⟨h3,h4⟩|⟨h3,h4⟩ <;> rcases hrow l' b h2 with⟨h5,h6⟩|⟨h5,h6⟩
   ·omega
   ·have:=hm.row l' b h6;omega
   ·have:=hm.row l b h4;omega
   ·exact hm.rowInj l l' b h4 h6
  apart:=fun l id b h1 h2=>by
   rcases hrow id b h2 with⟨_,h4⟩|⟨_,h4⟩
   ·have:=hm.box l b h1;omega
   ·exact hm.apart l id b h1 h4 }
theorem HK {id l b:Nat} (h:(g.killRow id).row l=some (some b)):l≠id∧g.row l=some (some b):=by
 simp only[Gh.killRow] at h
 split at h
 ·cases g.row id <;> simp at h
 ·rename_i hl;exact⟨hl,h⟩
theorem QH (id:Nat) (hl:id<m.rows.length) (hm:Aa g m w):As g m (g.killRow id) (m.retire id) w w where
 os:=rfl
 tape:=rfl
 output:=rfl
 size:=Nat.le_refl _
 boxes:=Nat.le_refl _
 rows:=by simp[Mem.retire]
 freshBox:=fun l h1 h2=>by simp[Mem.retire] at h2;omega
 freshRow:=fun l h1 h2=>by simp[Mem.retire] at h2;omega
 boxOld:=fun l hl=>rfl
 boxNew:=fun l b h1 h2=>by simp only[Gh.killRow] at h1;rw[h2] at h1;cases h1
 rowOut:=fun l h=>by
  have:l≠id:=by simp[Mem.retire] at h;omega
  simp[Gh.killRow,this]
 rowIn:=fun l b _ hb=>⟨(HK hb).2,Nat.le_refl _⟩
 rowStay:=fun l _=>by
  simp only[Gh.killRow]
  split
  ·rename_i e;subst e;cases g.row l <;> simp
  ·rfl
 rowNew:=fun l b h1 h2=>by simp[Mem.retire] at h2;omega
 same:=fun b hb _ _=>rfl
 sameRow:=fun id b _ hb arr t ha=>⟨arr,ha,rfl,fun _ _=>rfl⟩
theorem Zb (id:Nat) (hl:id<m.rows.length) (hm:Aa g m w):Aa (g.killRow id) (m.retire id) w:=by
 have hs:=QH id hl hm
 exact {
  tab:=hm.tab.step hs
  box:=hm.box
  row:=fun l b hb=>hm.row l b (HK hb).2
  boxOk:=fun l b c hb hc=>(hm.boxOk l b c hb hc).step hm hs rfl
  rowCells:=fun l b hb=>hm.rowCells l b (HK hb).2
  rowLive:=fun l n hn hne=>by
   have hll:l≠id:=by
    rintro rfl
    simp[Mem.retire,hl] at hn
   simp only[Mem.retire,List.getElem?_set,if_neg (show ¬ id=l from fun e=>hll e.symm)] at hn
   simp only[Gh.killRow,if_neg hll] at hne ⊢
   exact hm.rowLive l n hn hne
  rowOk:=fun l b n cs hb hc=>by
   obtain⟨hll,hb'⟩:=HK hb
   simp only[Mem.retire,List.getElem?_set,if_neg (show ¬ id=l from fun e=>hll e.symm)] at hc
   exact(hm.rowOk l b n cs hb' hc).step hm hs rfl
  boxInj:=hm.boxInj
  rowInj:=fun l l' b h1 h2=>hm.rowInj l l' b (HK h1).2 (HK h2).2
  apart:=fun l id b h1 h2=>hm.apart l id b h1 (HK h2).2 }
theorem Qv {id b n:Nat} {ks:List AV} {arr arr':Array Value} {t:TypeId} (hf:DR g m ((m.retire id).pushRow n ks)) (hb:g.row id=some (some b)) (hl:id<m.rows.length) (hn:g.hw id≤n) (ha:w.heap[b]?=some (.cells arr t (0,0)))
  (hz:arr'.size=arr.size) (he:∀ j,j<g.hw id→arr'[j]?=arr[j]?) (hm:Aa g m w):As g m ((g.killRow id).newRow m.rows.length b n) ((m.retire id).pushRow n ks) w (Dl w b (.cells arr' t (0,0))) where
 os:=rfl
 tape:=rfl
 output:=rfl
 size:=by simp[Dl]
 boxes:=Nat.le_refl _
 rows:=by simp[Mem.retire,Mem.pushRow]
 freshBox:=hf.1
 freshRow:=hf.2
 boxOld:=fun _ _=>rfl
 boxNew:=fun l b h1 h2=>by simp only[Gh.newRow,Gh.killRow] at h1;rw[h2] at h1;cases h1
 rowOut:=fun l h=>by
  have h1:l≠m.rows.length:=by simp[Mem.retire,Mem.pushRow] at h;omega
  have h2:l≠id:=by simp[Mem.retire,Mem.pushRow] at h;omega
  simp[Gh.newRow,Gh.killRow,h1,h2]
 rowIn:=fun l b' hl' hb'=>by
  have h1:l≠m.rows.length:=by omega
  simp only[Gh.newRow,if_neg h1] at hb' ⊢
  exact⟨(HK hb').2,Nat.le_refl _⟩
 rowStay:=fun l hl'=>by
  have h1:l≠m.rows.length:=by omega
  simp only[Gh.newRow,if_neg h1,Gh.killRow]
  split
  ·rename_i e;subst e;cases g.row l <;> simp
  ·rfl
 rowNew:=fun l b' h1 h2 hb'=>by
  have:l=m.rows.length:=by simp[Mem.retire,Mem.pushRow] at h2;omega
  simp only[Gh.newRow,if_pos this] at hb' ⊢
  injection hb' with hb';injection hb' with hb'
  subst hb'
  exact .inr ⟨id,hl,hb,hn⟩
 same:=fun b' hb' _ h2=>DW w b b' _ (fun e=>h2 id hl (e ▸ hb))
 sameRow:=fun id1 b' _ hb' arr1 t1 ha1=>by
  by_cases hid:id1=id
  ·subst hid
   rw[hb] at hb';injection hb' with hb';injection hb' with hb';subst hb'
   rw[ha] at ha1;injection ha1 with ha1;injection ha1 with ha1 ht1
   subst ha1 ht1
   exact⟨arr',EG w b _ (hm.row id1 b hb),hz,he⟩
  ·exact⟨arr1,by rw[DW w b b' _ (fun e=>hid (hm.rowInj id1 id b (e ▸ hb') hb))];exact ha1,rfl,fun _ _=>rfl⟩
theorem Zp {id b n:Nat} {ks:List AV} {arr arr':Array Value} {t:TypeId} (hf:DR g m ((m.retire id).pushRow n ks)) (hb:g.row id=some (some b)) (hl:id<m.rows.length) (hn:g.hw id≤n) (ha:w.heap[b]?=some (.cells arr t (0,0)))
  (hz:arr'.size=arr.size) (he:∀ j,j<g.hw id→arr'[j]?=arr[j]?) (hm:Aa g m w) (hkl:ks.length≤arr'.size) (hk:∀ (j:Nat) (c:AV),ks[j]?=some c→c.one=true∧∀ v,arr'[j]?=some v→Rep g w c v):Aa ((g.killRow id).newRow m.rows.length b n) ((m.retire id).pushRow n ks) (Dl w b (.cells arr' t (0,0))):=by
 have hs:=Qv hf hb hl hn ha hz he hm
 have hrow:∀ l b',((g.killRow id).newRow m.rows.length b n).row l=some (some b')→(l=m.rows.length∧b'=b)∨(l≠m.rows.length∧l≠id∧g.row l=some (some b')):=by
  intro l b' hb'
  simp only[Gh.newRow] at hb'
  split at hb'
  ·rename_i hl
   injection hb' with hb';injection hb' with hb';exact .inl ⟨hl,hb'.symm⟩
  ·rename_i hl
   exact .inr ⟨hl,HK hb'⟩
 exact {
  tab:=hm.tab.step hs
  box:=fun l b hb=>by rw[Ia];exact hm.box l b hb
  row:=fun l b' hb'=>by
   rw[Ia]
   rcases hrow l b' hb' with⟨_,rfl⟩|⟨_,_,h⟩
   ·exact hm.row id b' hb
   ·exact hm.row l b' h
  boxOk:=fun l' b' c' hb' hc'=>(hm.boxOk l' b' c' hb' hc').step hm hs (DW w b b' _ (fun e=>hm.apart l' id b (e ▸ hb') hb))
  rowCells:=fun l b' hb'=>by
   rcases hrow l b' hb' with⟨_,rfl⟩|⟨_,hlid,h⟩
   ·exact⟨arr',t,EG w b' _ (hm.row id b' hb)⟩
   ·obtain⟨a1,t1,h1⟩:=hm.rowCells l b' h
    exact⟨a1,t1,by rw[DW w b b' _ (fun e=>hlid (hm.rowInj l id b (e ▸ h) hb))];exact h1⟩
  rowLive:=fun l n' hn' hne=>by
   by_cases hll:l=m.rows.length
   ·subst hll
    have:n'=(n,ks):=by
     have:=hn'.symm
     simp only[Mem.pushRow,Mem.retire] at this
     rw[List.getElem?_append_right (by simp)] at this
     simpa using this
    subst this
    exact⟨b,by simp[Gh.newRow],by simp[Gh.newRow]⟩
   ·have h1:m.rows[l]?=some (some n')∧l≠id:=by
     simp only[Mem.pushRow,Mem.retire] at hn'
     rcases Nat.lt_or_ge l m.rows.length with h2 | h2
     ·rw[List.getElem?_append_left (by simpa using h2)] at hn'
      have hlid:l≠id:=by
       rintro rfl
       simp[h2] at hn'
      rw[List.getElem?_set,if_neg (fun e=>hlid e.symm)] at hn'
      exact⟨hn',hlid⟩
     ·rw[List.getElem?_append_right (by simpa using h2),List.getElem?_eq_none (by simp;omega)] at hn';cases hn'
    simp only[Gh.newRow,if_neg hll,Gh.killRow,if_neg h1.2] at hne ⊢
    exact hm.rowLive l n' h1.1 hne
  rowOk:=fun l b' n' cs hb' hc=>by
   rcases hrow l b' hb' with⟨rfl,rfl⟩|⟨hll,hlid,h⟩
   ·have:(n',cs)=(n,ks):=by
     simp only[Mem.pushRow,Mem.retire] at hc
     rw[List.getElem?_append_right (by simp)] at hc
     simpa using hc.symm
    injection this with h1 h2
    subst h1 h2
    exact⟨arr',t,EG w b' _ (hm.row id b' hb),hkl,fun j c hj=>⟨(hk j c hj).1,fun v hv=>((hk j c hj).2 v hv).step hm hs⟩⟩
   ·have h1:m.rows[l]?=some (some (n',cs)):=by
     simp only[Mem.pushRow,Mem.retire] at hc
     rcases Nat.lt_or_ge l m.rows.length with h2 | h2
     ·rw[List.getElem?_append_left (by simpa using h2),List.getElem?_set,if_neg (fun e=>hlid e.symm)] at hc;exact hc
     ·rw[List.getElem?_append_right (by simpa using h2),List.getElem?_eq_none (by simp;omega)] at hc;cases hc
    exact(hm.rowOk l b' n' cs h h1).step hm hs (DW w b b' _ (fun e=>hlid (hm.rowInj l id b (e ▸ h) hb)))
  boxInj:=hm.boxInj
  rowInj:=fun l l' b' h1 h2=>by
   rcases hrow l b' h1 with⟨h3,h4⟩|⟨h3,h3',h4⟩ <;> rcases hrow l' b' h2 with⟨h5,h6⟩|⟨h5,h5',h6⟩
   ·omega
   ·subst h4;exact absurd (hm.rowInj _ _ _ h6 hb) h5'
   ·subst h6;exact absurd (hm.rowInj _ _ _ h4 hb) h3'
   ·exact hm.rowInj l l' b' h4 h6
  apart:=fun l id' b' h1 h2=>by
   rcases hrow id' b' h2 with⟨_,rfl⟩|⟨_,_,h4⟩
   ·exact hm.apart l id b' h1 hb
   ·exact hm.apart l id' b' h1 h4 }
theorem Kt {id b n:Nat} {ks:List AV} {arr arr':Array Value} {t:TypeId} (hb:g.row id=some (some b)) (hl:id<m.rows.length) (ha:w.heap[b]?=some (.cells arr t (0,0)))
  (hz:arr'.size=arr.size) (he:∀ j,j<g.hw id→arr'[j]?=arr[j]?) (hm:Aa g m w):As g m g (m.setRow id n ks) w (Dl w b (.cells arr' t (0,0))) where
 os:=rfl
 tape:=rfl
 output:=rfl
 size:=by simp[Dl]
 boxes:=Nat.le_refl _
 rows:=by simp[Mem.setRow]
 freshBox:=fun l h1 h2=>by simp[Mem.setRow] at h2;omega
 freshRow:=fun l h1 h2=>by simp[Mem.setRow] at h2;omega
 boxOld:=fun _ _=>rfl
 boxNew:=fun l b h1 h2=>by rw[h2] at h1;cases h1
 rowOut:=fun l h=>⟨rfl,rfl⟩
 rowIn:=fun l b' hl' hb'=>⟨hb',Nat.le_refl _⟩
 rowStay:=fun l hl'=>Iff.rfl
 rowNew:=fun l b' h1 h2 hb'=>by simp[Mem.setRow] at h2;omega
 same:=fun b' hb' _ h2=>DW w b b' _ (fun e=>h2 id hl (e ▸ hb))
 sameRow:=fun id1 b' _ hb' arr1 t1 ha1=>by
  by_cases hid:id1=id
  ·subst hid
   rw[hb] at hb';injection hb' with hb';injection hb' with hb';subst hb'
   rw[ha] at ha1;injection ha1 with ha1;injection ha1 with ha1 ht1
   subst ha1 ht1
   exact⟨arr',EG w b _ (hm.row id1 b hb),hz,he⟩
  ·exact⟨arr1,by rw[DW w b b' _ (fun e=>hid (hm.rowInj id1 id b (e ▸ hb') hb))];exact ha1,rfl,fun _ _=>rfl⟩
theorem On {id b n:Nat} {ks0 ks:List AV} {arr arr':Array Value} {t:TypeId} (hb:g.row id=some (some b)) (hr:m.rows[id]?=some (some (n,ks0))) (ha:w.heap[b]?=some (.cells arr t (0,0)))
  (hz:arr'.size=arr.size) (he:∀ j,j<g.hw id→arr'[j]?=arr[j]?) (hm:Aa g m w) (hkl:ks.length≤arr'.size) (hk:∀ (j:Nat) (c:AV),ks[j]?=some c→c.one=true∧∀ v,arr'[j]?=some v→Rep g w c v):Aa g (m.setRow id n ks) (Dl w b (.cells arr' t (0,0))):=by
 have hl:id<m.rows.length:=(List.getElem?_eq_some_iff.1 hr).1
 have hs:=Kt (n:=n) (ks:=ks) hb hl ha hz he hm
 exact {
  tab:=hm.tab.step hs
  box:=fun l b hb=>by rw[Ia];exact hm.box l b hb
  row:=fun l b' hb'=>by rw[Ia];exact hm.row l b' hb'
  boxOk:=fun l' b' c' hb' hc'=>(hm.boxOk l' b' c' hb' hc').step hm hs (DW w b b' _ (fun e=>hm.apart l' id b (e ▸ hb') hb))
  rowCells:=fun l b' hb'=>by
   by_cases hlid:l=id
   ·subst hlid
    rw[hb] at hb';injection hb' with hb';injection hb' with hb';subst hb'
    exact⟨arr',t,EG w b _ (hm.row l b hb)⟩
   ·obtain⟨a1,t1,h1⟩:=hm.rowCells l b' hb'
    exact⟨a1,t1,by rw[DW w b b' _ (fun e=>hlid (hm.rowInj l id b (e ▸ hb') hb))];exact h1⟩
  rowLive:=fun l n' hn' hne=>by
   by_cases e:id=l
   ·subst e
    simp only[Mem.setRow,List.getElem?_set_self hl] at hn'
    injection hn' with hn';injection hn' with hn';subst hn'
    obtain⟨b2,h1,h2⟩:=hm.rowLive id _ hr hne
    exact⟨b2,h1,h2⟩
   ·simp only[Mem.setRow,List.getElem?_set,if_neg e] at hn'
    exact hm.rowLive l n' hn' hne
  rowOk:=fun l b' n' cs hb' hc=>by
   by_cases hlid:l=id
   ·subst hlid
    rw[hb] at hb';injection hb' with hb';injection hb' with hb';subst hb'
    simp only[Mem.setRow,List.getElem?_set_self hl] at hc
    injection hc with hc;injection hc with hc;injection hc with h1 h2
    subst h1 h2
    exact⟨arr',t,EG w b _ (hm.row l b hb),hkl,fun j c hj=>⟨(hk j c hj).1,fun v hv=>((hk j c hj).2 v hv).step hm hs⟩⟩
   ·simp only[Mem.setRow,List.getElem?_set,if_neg (fun e:id=l=>hlid e.symm)] at hc
    exact(hm.rowOk l b' n' cs hb' hc).step hm hs (DW w b b' _ (fun e=>hlid (hm.rowInj l id b (e ▸ hb') hb)))
  boxInj:=hm.boxInj
  rowInj:=hm.rowInj
  apart:=hm.apart }
end
end
section
def Av (P:Program) (t:TypeId):Option Nat:=(P.info? t).map (·.size)
def ER (P:Program) (t:TypeId):Option Nat:=(P.info? t).map (·.bytes)
def DC (P:Program) (t:TypeId):Option Bool :=
 match P.underlying t with
 | some (.struct _)=>some true
 | some (.array _ _)=>some true
 | some _=>some false
 | none=>none
def Ha:Value→Option AV
 | .slice none 0 0=>some (.slice .full [])
 | .tuple vs=>if vs.size=0 then some .undef else none
 | v=>if Nl v then some (.atom v) else none
def Hi (l:List Value):Option (List AV):=l.mapM Ha
def DE (P:Program) (t:TypeId):Option (List AV):=((P.info? t).bind (·.zero)).bind fun v=>(Hi v.cells.toList).bind fun cs=>if cs.all AV.one=true then some cs else none
def Bn (P:Program) (t:TypeId):Option TypeId :=
 match P.underlying t with
 | some (.slice e)=>some e
 | _=>none
def Ec (P:Program) (t:TypeId):Option (Nat × TypeId) :=
 match P.underlying t with
 | some (.array n e)=>some (n,e)
 | _=>none
def BI (P:Program) (t:TypeId) (f:Nat):Option (TypeId × Nat) :=
 match P.underlying t with
 | some (.struct fs)=>(fs[f]?).map fun x=>(x.type,x.offset)
 | _=>none
section
variable {g:Gh} {m:Mem} {w:World} {P:Program}
theorem Cb {t:TypeId} {n:Nat} (h:Av P t=some n) (w:World):(sizeOf t).run P w=.ok n w:=by
 unfold Av at h
 cases hi:P.info? t with
 | none=>rw[hi] at h;cases h
 | some i=>rw[hi] at h;injection h with h;simp[sizeOf,typeInfo,hi,h]
theorem Sb {t:TypeId} {n:Nat} (h:ER P t=some n):∃ i,(∀ w:World,(typeInfo t).run P w=.ok i w)∧i.bytes=n:=by
 unfold ER at h
 cases hi:P.info? t with
 | none=>rw[hi] at h;cases h
 | some i=>rw[hi] at h;injection h with h;exact⟨i,fun w=>by simp[typeInfo,hi],h⟩
theorem Au {t:TypeId} {d:TypeDesc} (h:P.underlying t=some d) (w:World):(underlying t).run P w=.ok d w:=by
 simp[underlying,h]
theorem ND {t:TypeId} {b:Bool} (h:DC P t=some b) (w:World):(isAgg t).run P w=.ok b w:=by
 unfold DC at h
 cases hu:P.underlying t with
 | none=>rw[hu] at h;cases h
 | some d =>
  rw[hu] at h
  simp only[isAgg,Sem.run_bind,Au hu,Result.andThen_ok]
  cases d <;> simp_all
theorem Fv {t:TypeId} {v:Value} (h:(P.info? t).bind (·.zero)=some v) (w:World):(zeroValue t).run P w=.ok v w:=by
 cases hi:P.info? t with
 | none=>rw[hi] at h;cases h
 | some i=>rw[hi] at h;simp at h;simp[zeroValue,typeInfo,hi,h]
theorem Oz {v:Value} {a:AV} (h:Ha v=some a):Rep g w a v:=by
 unfold Ha at h
 split at h
 ·injection h with h;subst h;exact .nil _ _ _ (fun id e=>by cases e) (fun _=>rfl)
 ·split at h
  ·injection h with h;subst h;exact .tuple [] _ (by assumption) (fun j c v h=>by simp at h)
  ·cases h
 ·split at h
  ·injection h with h;subst h;exact .atom _ (by assumption)
  ·cases h
theorem QY:∀ {l:List Value} {as_:List AV},Hi l=some as_→as_.length=l.length∧∀ (j:Nat) (a:AV) (v:Value),as_[j]?=some a→l[j]?=some v→Rep g w a v∧Ha v=some a:=by
 intro l
 induction l with
 | nil=>intro as_ h;simp[Hi] at h;subst h;simp
 | cons x l ih =>
  intro as_ h
  simp only[Hi,List.mapM_cons] at h
  cases hx:Ha x with
  | none=>rw[hx] at h;cases h
  | some a =>
   cases hl:l.mapM Ha with
   | none=>rw[hx,hl] at h;cases h
   | some as' =>
    rw[hx,hl] at h
    injection h with h
    subst h
    obtain⟨h1,h2⟩:=ih hl
    refine⟨by simp[h1],fun j a' v ha hv=>?_⟩
    cases j with
    | zero=>simp at ha hv;subst ha hv;exact⟨Oz hx,hx⟩
    | succ j=>simp at ha hv;exact h2 j a' v ha hv
theorem Rep.one_iff {a:AV} {v:Value} (h:Rep g w a v):a.one=v.oneCell':=by
 cases h <;> try rfl
 rename_i h
 cases v <;> first | rfl | (simp[Nl] at h)
theorem Rep.cells {a:AV} {v:Value} (h:Rep g w a v) (hn:∀ cs,a≠.tuple cs):Bi g w a.cells v.cells∧∀ c∈a.cells,c.one=true:=by
 cases h with
 | agg cs vs hl ho hr=>exact⟨⟨hl,hr⟩,ho⟩
 | tuple cs vs hl hr=>exact absurd rfl (hn cs)
 | atom v h =>
  have e:v.cells = #[v]:=by cases v <;> first | rfl | (simp[Nl] at h)
  rw[e]
  refine⟨⟨rfl,fun j c v' hc hv=>?_⟩,by simp[AV.cells,AV.one]⟩
  cases j with
  | zero=>simp[AV.cells] at hc hv;subst hc hv;exact .atom _ h
  | succ j=>simp[AV.cells] at hc
 | _ =>
  refine⟨⟨rfl,fun j c v' hc hv=>?_⟩,by simp[AV.cells,AV.one]⟩
  cases j with
  | zero=>simp[AV.cells,Value.cells] at hc hv;subst hc hv;constructor <;> assumption
  | succ j=>simp[AV.cells] at hc
def Ez:Value→Option AV
 | .agg vs=>(Hi vs.toList).bind fun cs=>if cs.all AV.one=true then some (.agg cs) else none
 | v=>Ha v
theorem NQ {v:Value} {a:AV} (h:Ez v=some a):Rep g w a v:=by
 unfold Ez at h
 split at h
 ·rename_i vs
  cases hc:Hi vs.toList with
  | none=>rw[hc] at h;cases h
  | some cs =>
   rw[hc] at h
   simp only[Option.bind_some] at h
   split at h
   ·rename_i hone
    injection h with h;subst h
    obtain⟨h1,h2⟩:=QY (g:=g) (w:=w) hc
    exact .agg cs vs (by simpa using h1.symm) (fun c hc'=>List.all_eq_true.1 hone c hc') (fun j c v hj hv=>(h2 j c v hj (by simpa using hv)).1)
   ·cases h
 ·exact Oz h
def Ij (g:Gh) (w:World) (b o:Nat) (cs:List AV):Prop:=(∀ c∈cs,c.one=true)∧∀ (j:Nat) (c:AV),cs[j]?=some c→∃ v,w.cell? ⟨b,o+j,none⟩=some v∧Rep g w c v
theorem DV (b o n:Nat):(⟨b,o,none⟩:Addr).add n=⟨b,o+n,none⟩:=by
 unfold Addr.add
 split
 ·rename_i h;simp[h]
 ·rfl
theorem SH {b o:Nat} (vals:Nat→Value):∀ (n i:Nat) (acc:Array Value),(∀ j,i≤j→j<i+n→w.cell? ⟨b,o+j,none⟩=some (vals j)) →
  (loadCellsFrom ⟨b,o,none⟩ i n acc).run P w=.ok (acc++((List.range' i n).map vals).toArray) w:=by
 intro n
 induction n with
 | zero=>intro i acc h;simp[loadCellsFrom]
 | succ n ih =>
  intro i acc h
  simp only[loadCellsFrom,Sem.run_bind,DV,run_load,h i (Nat.le_refl _) (by omega),Result.andThen_ok]
  rw[ih (i+1) _ (fun j h1 h2=>h j (by omega) (by omega))]
  simp[List.range'_succ]
theorem LQ {b o n:Nat} (vals:Nat→Value) (h:∀ j,j<n→w.cell? ⟨b,o+j,none⟩=some (vals j)) :
  (loadCells ⟨b,o,none⟩ n).run P w=.ok ((List.range n).map vals).toArray w:=by
 rw[loadCells,SH vals n 0 #[] (fun j _ h2=>h j (by omega))]
 simp[List.range_eq_range']
def Fa (P:Program) (t:TypeId) (cs:List AV) (off:Nat):Option AV :=
 match DC P t,Av P t with
 | some true,some n=>if off+n≤cs.length then some (.agg ((cs.drop off).take n)) else none
 | some false,some _=>cs[off]?
 | _,_=>none
theorem Ij.vals {b o:Nat} {cs:List AV} (h:Ij g w b o cs):∃ vals:Nat→Value,∀ (j:Nat) (c:AV),cs[j]?=some c→w.cell? ⟨b,o+j,none⟩=some (vals j)∧Rep g w c (vals j):=by
 refine⟨fun j=>((w.cell? ⟨b,o+j,none⟩).getD undef),fun j c hj=>?_⟩
 obtain⟨v,h1,h2⟩:=h.2 j c hj
 simp only[h1,Option.getD_some]
 exact⟨trivial,h2⟩
theorem NK {b o off:Nat} {t:TypeId} {cs:List AV} {a:AV} (h:Ij g w b o cs) (ha:Fa P t cs off=some a) :
  ∃ v,(loadVar t ⟨b,o+off,none⟩).run P w=.ok v w∧Rep g w a v:=by
 obtain⟨vals,hv⟩:=h.vals
 unfold Fa at ha
 split at ha
 ·rename_i n h1 h2
  split at ha
  ·rename_i hle
   injection ha with ha
   subst ha
   have hl:(loadCells ⟨b,o+off,none⟩ n).run P w=.ok ((List.range n).map fun j=>vals (off+j)).toArray w:=by
    refine LQ _ (fun j hj=>?_)
    obtain⟨c,hc⟩:∃ c,cs[off+j]?=some c:=⟨_,List.getElem?_eq_getElem (by omega)⟩
    rw[Nat.add_assoc];exact(hv _ c hc).1
   refine⟨.agg ((List.range n).map fun j=>vals (off+j)).toArray,by simp only[loadVar,Sem.run_bind,ND h1,Result.andThen_ok,Cb h2,hl,if_true,Sem.run_pure],?_⟩
   refine .agg _ _ (by simp;omega) (fun c hc=>h.1 c (List.mem_of_mem_drop (List.mem_of_mem_take hc))) (fun j c v hc hv'=>?_)
   have hj:j<n:=by
    have:=(List.getElem?_eq_some_iff.1 hc).1;simp at this;omega
   rw[List.getElem?_take_of_lt hj,List.getElem?_drop] at hc
   simp[List.getElem?_range hj] at hv'
   subst hv'
   exact(hv _ c hc).2
  ·cases ha
 ·rename_i n h1 h2
  obtain⟨h3,h4⟩:=hv off a ha
  refine⟨vals off,?_,h4⟩
  simp[loadVar,ND h1,h3]
 ·cases ha
theorem Io {b o:Nat} {t:TypeId}:∀ (vs:List Value) (i:Nat) (arr:Array Value) (w:World),w.heap[b]?=some (.cells arr t (0,0))→o+i+vs.length≤arr.size→(∀ v∈vs,v.oneCell'=true) →
  ∃ arr',(storeCells ⟨b,o,none⟩ vs i).run P w=.ok () (Dl w b (.cells arr' t (0,0)))∧arr'.size=arr.size∧∀ j,arr'[j]?=if o+i≤j∧j<o+i+vs.length then vs[j - (o+i)]? else arr[j]?:=by
 intro vs
 induction vs with
 | nil =>
  intro i arr w h1 h2 h3
  refine⟨arr,?_,rfl,fun j=>?_⟩
  ·have:Dl w b (.cells arr t (0,0))=w:=by
    obtain⟨hlt,he⟩:=Array.getElem?_eq_some_iff.1 h1
    have:w.heap.setIfInBounds b (.cells arr t (0,0))=w.heap:=by
     apply Array.ext_getElem?
     intro k
     simp only[Array.getElem?_setIfInBounds]
     split
     ·rename_i e;subst e;simp[hlt,he]
     ·rfl
    simp[Dl,this]
   simp[storeCells,this]
  ·rw[if_neg (by simp only[List.length_nil];omega)]
 | cons v vs ih =>
  intro i arr w h1 h2 h3
  simp only[List.length_cons] at h2
  have hc:w.cell? ⟨b,o+i,none⟩=some arr[o+i]:=by
   unfold World.cell?
   dsimp only
   rw[h1]
   simp
  have hfz:w.frozen? ⟨b,o+i,none⟩=false:=by
   unfold World.frozen?
   dsimp only
   rw[h1]
   simp
  have hst:(w.setCell ⟨b,o+i,none⟩ v)=Dl w b (.cells (arr.setIfInBounds (o+i) v) t (0,0)):=by
   unfold World.setCell Dl
   congr 1
   apply Array.ext_getElem?
   intro k
   simp only[Array.getElem?_modify,Array.getElem?_setIfInBounds]
   split
   ·rename_i e
    subst e
    rw[h1]
    simp[(Array.getElem?_eq_some_iff.1 h1).1]
   ·rfl
  have hlt:=(Array.getElem?_eq_some_iff.1 h1).1
  obtain⟨arr',h4,h5,h6⟩:=ih (i+1) (arr.setIfInBounds (o+i) v) (Dl w b (.cells (arr.setIfInBounds (o+i) v) t (0,0))) (EG w b _ hlt) (by simp;omega) (fun x hx=>h3 x (List.mem_cons_of_mem _ hx))
  refine⟨arr',?_,by rw[h5];simp,fun j=>?_⟩
  ·simp only[storeCells,Sem.run_bind,DV,run_store P w _ v .plain (h3 v (List.mem_cons_self ..)),hc,hfz,Bool.false_eq_true,if_false,Result.andThen_ok,hst,h4,ADl]
  ·rw[h6 j]
   simp only[Array.getElem?_setIfInBounds,List.length_cons]
   by_cases e1:o+i=j
   ·subst e1
    rw[if_neg (by omega),if_pos rfl,if_pos (by omega),if_pos (by omega)]
    simp
   ·by_cases e2:o+(i+1)≤j∧j<o+(i+1)+vs.length
    ·rw[if_pos e2,if_pos (by omega)]
     have:j - (o+i)=(j - (o+(i+1)))+1:=by omega
     rw[this,List.getElem?_cons_succ]
    ·rw[if_neg e2,if_neg e1,if_neg (by omega)]
def Ca (cs:List AV) (off:Nat) (xs:List AV):List AV:=cs.take off++xs++cs.drop (off+xs.length)
theorem Hm {cs xs:List AV} {off:Nat} (h:off+xs.length≤cs.length):(Ca cs off xs).length=cs.length:=by
 simp[Ca];omega
theorem LY {cs xs:List AV} {off:Nat} (h:off+xs.length≤cs.length) (j:Nat):(Ca cs off xs)[j]?=if off≤j∧j<off+xs.length then xs[j - off]? else cs[j]?:=by
 unfold Ca
 have ht:(cs.take off).length=off:=by simp;omega
 by_cases h1:j<off
 ·rw[if_neg (by omega),List.append_assoc,List.getElem?_append_left (by omega),List.getElem?_take_of_lt h1]
 ·rw[List.append_assoc,List.getElem?_append_right (by omega),ht]
  by_cases h2:j - off<xs.length
  ·rw[if_pos (by omega),List.getElem?_append_left h2]
  ·rw[if_neg (by omega),List.getElem?_append_right (by omega),List.getElem?_drop]
   congr 1
   omega
theorem LX {cs xs:List AV} {off:Nat} (h1:∀ c∈cs,c.one=true) (h2:∀ c∈xs,c.one=true):∀ c∈Ca cs off xs,c.one=true:=by
 intro c hc
 simp only[Ca,List.mem_append] at hc
 rcases hc with (hc | hc) | hc
 ·exact h1 c (List.mem_of_mem_take hc)
 ·exact h2 c hc
 ·exact h1 c (List.mem_of_mem_drop hc)
theorem Zk {l b off:Nat} {t:TypeId} {n:Nat} {cs:List AV} {a:AV} {v:Value} (hm:Aa g m w) (hb:g.box l=some b) (hl:m.boxes[l]?=some (.cells cs)) (hn:Av P t=some n) (ha:Rep g w a v) (ht:∀ cs,a≠.tuple cs)
  (hz:a.cells.length=n) (hle:off+n≤cs.length) :
  ∃ w',(storeVar t ⟨b,off,none⟩ v).run P w=.ok () w'∧As g m g (m.set l (.cells (Ca cs off a.cells))) w w'∧Aa g (m.set l (.cells (Ca cs off a.cells))) w':=by
 obtain⟨arr,ty,h1,⟨h2,h3⟩,h4⟩:=hm.boxOk l b _ hb hl
 obtain⟨⟨h5,h6⟩,h7⟩:=ha.cells ht
 have hlm:l<m.boxes.length:=(List.getElem?_eq_some_iff.1 hl).1
 have hone:∀ x∈v.cells.toList,x.oneCell'=true:=by
  intro x hx
  obtain⟨j,hj,he⟩:=List.getElem_of_mem hx
  have hj':j<v.cells.size:=by simpa using hj
  have h8:v.cells[j]?=some x:=by rw[Array.getElem?_eq_getElem hj'];simpa using he
  obtain⟨c,hc⟩:∃ c,a.cells[j]?=some c:=⟨_,List.getElem?_eq_getElem (by omega)⟩
  rw[← (h6 j c x hc h8).one_iff]
  exact h7 c (List.mem_of_getElem? hc)
 obtain⟨arr',h8,h9,h10⟩:=Io (P:=P) (b:=b) (o:=off) (t:=ty) v.cells.toList 0 arr w h1 (by simp;omega) hone
 have hs:=JF (.cells arr' ty (0,0)) (.cells (Ca cs off a.cells)) hb hlm hm
 refine⟨Dl w b (.cells arr' ty (0,0)),?_,hs,LZ _ _ hb hlm hm ?_⟩
 ·simp[storeVar,Cb hn,h5,hz,h8]
 ·have hlt:=(Array.getElem?_eq_some_iff.1 h1).1
  refine⟨arr',ty,EG w b _ hlt,⟨by rw[h9,Hm (by omega),h2],fun j c x hc hx=>?_⟩,LX h4 h7⟩
  rw[LY (by omega)] at hc
  rw[h10 j] at hx
  simp only[Nat.add_zero,Array.length_toList] at hx
  by_cases e:off≤j∧j<off+a.cells.length
  ·rw[if_pos e] at hc
   rw[if_pos (by omega)] at hx
   exact(h6 (j - off) c x hc (by simpa using hx)).step hm hs
  ·rw[if_neg e] at hc
   rw[if_neg (by omega)] at hx
   exact(h3 j c x hc hx).step hm hs
end
end
section
def Bj:AV→Bool
 | .tuple _=>false
 | _=>true
def Kl (k:Nat):Option AV:=(tabs.find? fun q=>q.1 == k).map fun q=>.eptr (.agg (q.2.map .atom)) 0
def BF (env:List AV):Operand→Option AV
 | .tmp t=>env[t]?
 | .const v=>Ez v
 | .func f=>some (.func f [] [])
 | .global k=>Kl k
def Cx (op:BinOp) (k:IntKind) (a b:Int):Option AV :=
 match op with
 | .add=>some (.atom (.int k (k.wrap (a+b))))
 | .sub=>some (.atom (.int k (k.wrap (a - b))))
 | .mul=>some (.atom (.int k (k.wrap (a * b))))
 | .quo=>if b=0 then none else some (.atom (.int k (k.wrap (a.tdiv b))))
 | .rem=>if b=0 then none else some (.atom (.int k (a.tmod b)))
 | .and=>some (.atom (.int k (k.wrap (BitVec.ofInt k.bits a&&&BitVec.ofInt k.bits b).toNat)))
 | .or=>some (.atom (.int k (k.wrap (BitVec.ofInt k.bits a|||BitVec.ofInt k.bits b).toNat)))
 | .xor=>some (.atom (.int k (k.wrap (BitVec.ofInt k.bits a ^^^ BitVec.ofInt k.bits b).toNat)))
 | .andNot=>some (.atom (.int k (k.wrap (BitVec.ofInt k.bits a&&&~~~BitVec.ofInt k.bits b).toNat)))
 | .eql=>some (.bool (a == b))
 | .neq=>some (.bool (a != b))
 | .lss=>some (.bool (decide (a<b)))
 | .leq=>some (.bool (decide (a≤b)))
 | .gtr=>some (.bool (decide (a > b)))
 | .geq=>some (.bool (decide (a ≥ b)))
 | _=>none
def Nb (op:BinOp) (k:IntKind) (a b:Int):Option AV :=
 if b<0 then none else
 match op with
 | .shl=>some (.atom (.int k (k.wrap (a * 2 ^ (min b.toNat k.bits)))))
 | .shr=>some (.atom (.int k (a.fdiv (2 ^ (min b.toNat k.bits)))))
 | _=>none
def MG (P:Program) (t:TypeId):Option (List (TypeId × Nat)) :=
 match P.underlying t with
 | some (.struct fs) => if (fs.all fun f => f.name != "_") && !P.stoodInHeld t then some (fs.toList.map fun f => (f.type, f.offset)) else none
 | _=>none
def Sl (P:Program) (cmp:TypeId→AV→AV→Option Bool) (xs ys:List AV):List (TypeId × Nat)→Option Bool
 | []=>some true
 | (t,o) :: l =>
  match Fa P t xs o,Fa P t ys o with
  | some a,some b =>
   match cmp t a b,Sl P cmp xs ys l with
   | some p,some q=>some (p&&q)
   | _,_=>none
  | _,_=>none
def aeq (P:Program):Nat→TypeId→AV→AV→Option Bool
 | 0,_,_,_=>none
 | d+1,t,.agg xs,.agg ys =>
  match MG P t with
  | some l=>Sl P (aeq P d) xs ys l
  | none=>match Ec P t with
   | some (n,e)=>match Av P e with
    | some s=>Sl P (aeq P d) xs ys ((List.range' 0 n).map fun i=>(e,i * s))
    | none=>none
   | none=>none
 | _+1,t,.atom (.int k a),.atom (.int k' b)=>match P.underlying t with
  | some (.int _)=>if k=k' then some (a == b) else none
  | _=>none
 | _+1,t,.atom (.bool a),.atom (.bool b)=>match P.underlying t with
  | some .bool=>some (a == b)
  | _=>none
 | _+1,t,.atom (.string a),.atom (.string b)=>match P.underlying t with
  | some .string=>some (a == b)
  | _=>none
 | _+1,_,_,_=>none
def Kx (P:Program) (t:TypeId):Bool:=P.eqGuardType P.depth t
def Bq (P:Program) (op:BinOp) (xt:TypeId) (x y:AV):Option AV :=
 match x,y with
 | .atom (.int k a),.atom (.int k' b) =>
  match op with
  | .shl=>Nb .shl k a b
  | .shr=>Nb .shr k a b
  | op=>if k=k' then Cx op k a b else none
 | .atom (.bool a),.atom (.bool b) =>
  match P.underlying xt,op with
  | some .bool,.eql=>some (.bool (a == b))
  | some .bool,.neq=>some (.bool (!(a == b)))
  | _,_=>none
 | .agg xs,.agg ys =>
  match op with
  | .eql=>if Kx P xt=false then(aeq P 9 xt (.agg xs) (.agg ys)).map AV.bool else none
  | .neq=>if Kx P xt=false then(aeq P 9 xt (.agg xs) (.agg ys)).map fun b=>AV.bool (!b) else none
  | _=>none
 | .ptr _ _,.atom (.pointer none) =>
  match P.underlying xt,op with
  | some (.pointer _),.eql=>some (.bool false)
  | some (.pointer _),.neq=>some (.bool true)
  | _,_=>none
 | .atom (.pointer none),.atom (.pointer none) =>
  match P.underlying xt,op with
  | some (.pointer _),.eql=>some (.bool true)
  | some (.pointer _),.neq=>some (.bool false)
  | _,_=>none
 | _,_=>none
def aun (op:UnOp) (x:AV):Option AV :=
 match op,x with
 | .neg,.atom (.int k n)=>Cx .sub k 0 n
 | .xor,.atom (.int k n)=>Cx .xor k (if k.signed then -1 else k.max) n
 | .not,.atom (.bool b)=>some (.bool !b)
 | _,_=>none
def EL (P:Program) (t:TypeId):Option (List (Nat × Nat)) :=
 match P.underlying t with
 | some (.struct fs)=>fs.toList.mapM fun f=>(Av P f.type).map fun n=>(f.offset,n)
 | _=>none
def Gg (places:Nat→Option (Nat × Nat)) (cells:List AV):List (Nat × AV)→Option (List AV)
 | []=>some cells
 | (i,v) :: rest =>
  match places i with
  | none=>none
  | some (off,size)=>if v.cells.length=size∧off+size≤cells.length∧Bj v=true then Gg places (Ca cells off (v.cells.map AV.strip1)) rest else none
def HO (P:Program) (t:TypeId) (At:List (Nat × AV)):Option AV :=
 match DE P t,EL P t,Ec P t with
 | some cs,some ps,_=>(Gg (ps[·]?) cs At).map .agg
 | some cs,none,some (_,e)=>match Av P e with
  | some s=>(Gg (fun i=>some (i * s,s)) cs At).map .agg
  | none=>none
 | _,_,_=>none
def DI (P:Program) (t:TypeId) (len:Nat) (At:List (Nat × AV)):Option AV :=
 match Bn P t with
 | some e=>match Av P e with
  | some s=>if 0<s∧len * s≤2 ^ 24∧(DE P e).map List.length=some s∧At.map (·.1)=List.range len∧(∀ p∈At,p.2.cells.length=s∧Bj p.2=true) then some (.slice .full (At.map fun p=>p.2.strip)) else none
  | none=>none
 | none=>none
def flatC (es:List AV):List AV:=es.flatMap AV.cells
def LP (P:Program) (t:TypeId) (m:Mem) (d:AV):AV × Mem :=
 match d,Bn P t,(Bn P t).bind (Av P) with
 | .slice .full (e :: e2 :: l),some el,some s=>if m.mode el=true then(.vec m.rows.length 0 (e :: e2 :: l).length s .opn,m.pushRow 0 (flatC (e :: e2 :: l))) else(d,m)
 | _,_,_=>(d,m)
def EM (P:Program) (t:TypeId) (x i:AV):Option AV :=
 match i,x with
 | .atom (.int _ n),.slice _ es =>
  match Bn P t with
  | some e=>match Av P e with
   | some s=>if 0≤n then match es[n.toNat]? with
     | some a=>if a.cells.length=s∧a.cells≠[] then some (.eptr a 0) else none
     | none=>none
    else none
   | none=>none
  | none=>none
 | .atom (.int _ n),.ptr l off =>
  match Ec P t with
  | some (len,e)=>match Av P e with
   | some s=>if 0≤n∧n<len then some (.ptr l (off+n.toNat * s)) else none
   | none=>none
  | none=>none
 | .atom (.int _ n),.eptr a off =>
  match Ec P t with
  | some (len,e)=>match Av P e with
   | some s=>if 0≤n∧n<len then some (.eptr a (off+n.toNat * s)) else none
   | none=>none
  | none=>none
 | .atom (.int _ n),.vec id off len sz _ =>
  match Bn P t with
  | some e=>match Av P e with
   | some s=>if sz=s∧0≤n∧n<len then some (.vptr id (off+n.toNat * s)) else none
   | none=>none
  | none=>none
 | .atom (.int _ n),.vptr id off =>
  match Ec P t with
  | some (len,e)=>match Av P e with
   | some s=>if 0≤n∧n<len then some (.vptr id (off+n.toNat * s)) else none
   | none=>none
  | none=>none
 | _,_=>none
def LD (P:Program) (t:TypeId) (x i:AV):Option AV :=
 match i,x,Ec P t with
 | .atom (.int _ n),.agg cs,some (len,e) =>
  match Av P e with
  | some s=>if 0≤n∧n<len then Fa P e cs (n.toNat * s) else none
  | none=>none
 | _,_,_=>none
def GH (P:Program) (t:TypeId) (x:AV) (f:Nat):Option AV :=
 match BI P t f with
 | some (ft,o) =>
  match Av P ft with
  | some (_+1) =>
   match x with
   | .ptr l off=>some (.ptr l (off+o))
   | .eptr a off=>some (.eptr a (off+o))
   | .vptr id off=>some (.vptr id (off+o))
   | _=>none
  | _=>none
 | none=>none
def MO (P:Program) (t:TypeId) (x:AV) (f:Nat):Option AV :=
 match BI P t f,x with
 | some (ft,o),.agg cs=>Fa P ft cs o
 | _,_=>none
def Fo (P:Program) (m:Mem) (t:TypeId) (x:AV):Option AV :=
 match x with
 | .ptr l off=>match m.boxes[l]? with
  | some (.cells cs)=>Fa P t cs off
  | _=>none
 | .eptr a off=>Fa P t a.cells off
 | .vptr id off=>match m.rows[id]? with
  | some (some (_,cs))=>Fa P t cs off
  | _=>none
 | _=>none
def FL (P:Program) (m:Mem) (t:TypeId) (x y:AV):Option Mem :=
 match x with
 | .ptr l off=>match m.boxes[l]?,Av P t with
  | some (.cells cs),some n=>if y.cells.length=n∧off+n≤cs.length∧Bj y=true then some (m.set l (.cells (Ca cs off y.cells))) else none
  | _,_=>none
 | .vptr id off=>match m.rows[id]?,Av P t with
  | some (some (0,cs)),some n=>if y.cells.length=n∧off+n≤cs.length∧Bj y=true then some (m.setRow id 0 (Ca cs off y.cells)) else none
  | _,_=>none
 | _=>none
def GD (x:Option AV) (d:Nat):Option Int :=
 match x with
 | none=>some d
 | some (.atom (.int _ n))=>some n
 | some _=>none
def GZ (P:Program) (t:TypeId) (x:AV) (lo hi mx:Option AV):Option AV :=
 match x,Bn P t with
 | .slice _ es,some e =>
  match Av P e,GD lo 0,GD hi es.length,GD mx es.length with
  | some s,some l,some h,some k =>
   if 0≤l∧l≤h∧h≤k∧k≤es.length∧(mx.isSome=true→hi.isSome=true)∧(∀ e∈es,e.cells.length=s)∧0<s then
    some (.slice (if mx.isSome∧h=k then .full else .foreign) ((es.take h.toNat).drop l.toNat)) else none
  | _,_,_,_=>none
 | .vec id off len sz k,some e =>
  match Av P e,GD lo 0,GD hi len,GD mx len with
  | some s,some l,some h,some c =>
   if 0≤l∧l≤h∧h≤c∧c≤len∧(mx.isSome=true→hi.isSome=true)∧s=sz then
    if l=h∧0<l then some (.slice (if mx.isSome∧h=c then .full else .foreign) []) else
    some (.vec id (off+l.toNat * s) (h - l).toNat sz (if mx.isSome then(if h=c then .full else .any) else if k=.opn then .opn else if h=len then k else .any)) else none
  | _,_,_,_=>none
 | _,_=>none
def MS (P:Program) (t:TypeId) (x:AV):Option AV :=
 match x,P.underlying t with
 | .slice _ es,some (.slice _)=>some (.i64 es.length)
 | .vec _ _ len _ _,some (.slice _)=>some (.i64 len)
 | .atom (.string s),some .string=>some (.i64 s.size)
 | _,some (.array n _)=>some (.i64 n)
 | _,_=>none
def Dh (P:Program) (t:TypeId):Option Nat:=((P.info? t).bind (·.zero)).map (·.cells.size)
def Fd:Nat:=140737488355328
def FU (m:Mem) (s:Nat):AV→Option (List AV × Nat)
 | .slice _ es=>if ∀ e∈es,e.cells.length=s then some (flatC es,es.length) else none
 | .vec id off len sz _=>match m.rows[id]? with
  | some (some (_,cs))=>if sz=s∧off+len * sz≤cs.length then some ((cs.drop off).take (len * sz),len) else none
  | _=>none
 | _=>none
def Kv (m:Mem) (x:AV):Mem :=
 match x with
 | .vec id off len sz .opn=>match m.rows[id]? with
  | some (some (0,cs))=>m.setRow id 0 (cs.take (off+len * sz))
  | _=>m
 | _=>m
def Yp (m:Mem) (s:Nat) (x:AV) (xc:List AV) (nx:Nat) (yc:List AV) (ny:Nat):Option (AV × Mem) :=
 match x with
 | .slice .full _=>some (.vec m.rows.length 0 (nx+ny) s .opn,m.pushRow 0 (xc++yc))
 | .vec _ _ _ _ .full=>some (.vec m.rows.length 0 (nx+ny) s .opn,m.pushRow 0 (xc++yc))
 | .vec id off _ _ .opn=>match m.rows[id]? with
  | some (some (0,cs)) =>
   if off+(nx+ny) * s≤cs.length then some (.vec id off (nx+ny) s .opn,m.setRow id 0 ((Ca cs (off+nx * s) yc).take (off+(nx+ny) * s)))
   else if off=0 then some (.vec m.rows.length 0 (nx+ny) s .opn,(m.retire id).pushRow 0 (xc++yc)) else none
  | _=>none
 | _=>none
def GX (P:Program) (m:Mem) (t xt:TypeId) (x y:AV):Option (AV × Mem) :=
 match Bn P t,Bn P xt with
 | some e,some _ =>
  match Av P e,ER P e with
  | some s,some b =>
   match FU m s x,FU m s y with
   | some (xc,nx),some (yc,ny)=>if 0<s∧0<b∧Dh P e=some s∧(nx+ny) * b≤Fd then(if ny=0 then some (x,Kv m x) else Yp m s x xc nx yc ny) else none
   | _,_=>none
  | _,_=>none
 | _,_=>none
def ZC (m:Mem) (id:Nat):Option Nat :=
 match m.rows[id]? with
 | some (some (n,_))=>some n
 | _=>none
theorem AC5 {m:Mem} {id n:Nat} (h:ZC m id=some n):∃ cs,m.rows[id]?=some (some (n,cs)):=by
 unfold ZC at h
 split at h
 ·rename_i n' cs he;injection h with h;subst h;exact⟨cs,he⟩
 ·cases h
def IL (P:Program) (m:Mem) (t xt:TypeId) (x y:AV):Option (AV × Mem) :=
 match x,y,Bn P t,Bn P xt with
 | .slice own es,.slice _ ys,some e,some _ =>
  match Av P e,ER P e with
  | some s,some b =>
   if 0<s∧0<b∧Dh P e=some s∧(es.length+ys.length) * b≤Fd∧(∀ e∈es,e.cells.length=s)∧(∀ e∈ys,e.cells.length=s) then
    if ys=[] then some (.slice own es,m) else
    match own with
    | .foreign=>none
    | .full=>some (.slice (.row m.rows.length) (es++ys),m.pushRow ((es.length+ys.length) * s))
    | .row id=>if ZC m id=some (es.length * s)∧es≠[] then some (.slice (.row m.rows.length) (es++ys),(m.retire id).pushRow ((es.length+ys.length) * s)) else none
   else none
  | _,_=>none
 | _,_,_,_=>none
def EK (P:Program) (m:Mem) (t xt:TypeId) (x y:AV):Option (AV × Mem) :=
 match x with
 | .vec ..=>GX P m t xt x y
 | .slice .full _=>match Bn P t with
  | some e=>if m.mode e=true then GX P m t xt x y else IL P m t xt x y
  | none=>none
 | _=>IL P m t xt x y
def amm (isMax:Bool) (x y:AV):Option AV :=
 match x,y with
 | .atom (.int k a),.atom (.int k' b)=>if k=k' then some (.atom (.int k (if isMax then(if b > a then b else a) else(if b<a then b else a)))) else none
 | _,_=>none
def Ls (isMax:Bool):List AV→Option AV
 | []=>none
 | x :: rest=>rest.foldlM (amm isMax) x
def EQ (env:List AV) (l:List Operand):Option (List AV):=l.mapM (BF env)
def JM (env:List AV) (l:List (Nat × Operand)):Option (List (Nat × AV)):=l.mapM fun p=>(BF env p.2).map (p.1,·)
def Jz (env:List AV):Option Operand→Option (Option AV)
 | none=>some none
 | some x=>(BF env x).map some
def FT (P:Program) (b:Builtin) (ts:List TypeId) (as_:List AV) (m:Mem):Option (AV × Mem) :=
 match b,ts,as_ with
 | .len,t :: _,[x]=>(MS P t x).map (·,m)
 | .append,[t,xt],[x,y]=>EK P m t xt x y
 | .min,_,as_=>(Ls false as_).map (·,m)
 | .max,_,as_=>(Ls true as_).map (·,m)
 | _,_,_=>none
def Oo (P:Program) (t:TypeId):Option (TypeId × TypeId) :=
 match P.underlying t with
 | some (.map k e)=>some (k,e)
 | _=>none
def ON (P:Program) (k:TypeId):Option TypeDesc :=
 match P.underlying k with
 | some (.int d)=>some (.int d)
 | some .bool=>some .bool
 | _=>none
def Lm (kind:TypeDesc) (k:Value):List (Value × AV × Nat)→Nat→Option (Option (Nat × AV))
 | [],_=>some none
 | e :: es,i=>match Go.Instr.sameNow kind k e.1 with
  | some true=>some (some (i,e.2.1))
  | some false=>Lm kind k es (i+1)
  | none=>none
def UK (P:Program) (t:TypeId):Option AV:=((P.info? t).bind (·.zero)).bind Ez
def YB (m:Mem):AV→Option (List (Value × AV × Nat))
 | .atom (.map none)=>some []
 | .map l=>match m.boxes[l]? with
  | some (.map es _)=>some es
  | _=>none
 | _=>none
def OV:AV→Option Value
 | .atom v=>some v
 | _=>none
def AHF (P:Program) (t:TypeId):Option AV:=(UK P t).map AV.strip
def LK (P:Program) (e:TypeId) (ok:Bool):Option (Nat × AV)→Option AV
 | some (_,a)=>some (if ok=true then .tuple [a,.bool true] else a)
 | none=>(AHF P e).map fun z=>if ok=true then .tuple [z,.bool false] else z
def Lv (P:Program) (m:Mem) (t:TypeId) (x k:AV) (ok:Bool):Option AV :=
 (Oo P t).bind fun q=>(ON P q.1).bind fun kd=>(OV k).bind fun kv=>(YB m x).bind fun es=>(Lm kd kv es 0).bind (LK P q.2 ok)
def JL (es:List (Value × AV × Nat)) (clock:Nat) (k:Value) (v:AV):Option (Nat × AV)→Ck
 | some (i,_)=>.map (es.modify i fun e=>(k,v,e.2.2)) clock
 | none=>.map (es++[(k,v,clock)]) (clock+1)
def GM (P:Program) (m:Mem) (t:TypeId) (p k v:AV):Option Mem :=
 match p with
 | .map l=>match m.boxes[l]? with
  | some (.map es clock)=>(Oo P t).bind fun q=>(ON P q.1).bind fun kd=>(OV k).bind fun kv=>if Bj v=true then(Lm kd kv es 0).map fun r=>m.set l (JL es clock kv v.strip r) else none
  | _=>none
 | _=>none
def aop (P:Program) (op:Op) (env:List AV) (m:Mem):Option (AV × Mem) :=
 match op with
 | .move x=>(BF env x).map (·,m)
 | .assign x=>(BF env x).map (·,m)
 | .pick c a b=>match BF env c with
  | some (.atom (.bool t))=>(BF env (if t then a else b)).map (·,m)
  | _=>none
 | .alloc t=>(DE P t).map fun cs=>(.ptr m.boxes.length 0,m.push (.cells cs))
 | .box t x=>(BF env x).bind fun v=>if Bj v=true then some (.ptr m.boxes.length 0,m.push (.cells v.cells)) else none
 | .build t ps=>(JM env ps.toList).bind fun l=>(HO P t l).map (·,m)
 | .buildSlice t len ps=>(JM env ps.toList).bind fun l=>(DI P t len l).map (LP P t m)
 | .load t a=>(BF env a).bind fun p=>(Fo P m t p).map (·,m)
 | .store t a x=>(BF env a).bind fun p=>(BF env x).bind fun v=>(FL P m t p v).map (AV.undef,·)
 | .nilCheck x=>(BF env x).bind fun v=>match v with
  | .ptr l o=>some (.ptr l o,m)
  | .eptr e o=>some (.eptr e o,m)
  | .vptr e o=>some (.vptr e o,m)
  | .func f a b=>some (.func f a b,m)
  | _=>none
 | .binOp op t x y _=>(BF env x).bind fun a=>(BF env y).bind fun b=>(Bq P op t a b).map (·,m)
 | .unOp op _ x=>(BF env x).bind fun a=>(aun op a).map (·,m)
 | .convert s t x=>(BF env x).bind fun a=>match a,P.underlying s,P.underlying t with
  | .atom (.int _ n),some (.int _),some (.int k)=>some (.atom (.int k (k.wrap n)),m)
  | _,_,_=>none
 | .makeFunc (.func f) first cap=>(EQ env first.toList).bind fun a=>(EQ env cap.toList).map fun b=>(.func f (a.map AV.strip) b,m)
 | .slice t x lo hi mx=>(BF env x).bind fun v=>(Jz env lo).bind fun l=>(Jz env hi).bind fun h=>(Jz env mx).bind fun k=>(GZ P t v l h k).map (·,m)
 | .fieldAddr t x f=>(BF env x).bind fun v=>(GH P t v f).map (·,m)
 | .field t x f=>(BF env x).bind fun v=>(MO P t v f).map (·,m)
 | .indexAddr t x i=>(BF env x).bind fun v=>(BF env i).bind fun k=>(EM P t v k).map (·,m)
 | .index t x i=>(BF env x).bind fun v=>(BF env i).bind fun k=>(LD P t v k).map (·,m)
 | .extract t i=>(BF env t).bind fun v=>match v with
  | .tuple vs=>(vs[i]?).map (·,m)
  | _=>none
 | .call { callee:=.builtin b,args:=as_,argTypes:=ts }=>(EQ env as_.toList).bind fun l=>FT P b ts.toList l m
 | .makeMap _ none=>some (.map m.boxes.length,m.push (.map [] 0))
 | .lookup t x i ok=>(BF env x).bind fun v=>(BF env i).bind fun k=>(Lv P m t v k ok).map (·,m)
 | .mapUpdate t a k x=>(BF env a).bind fun p=>(BF env k).bind fun kv=>(BF env x).bind fun v=>(GM P m t p kv v).map (AV.undef,·)
 | .insert t a k x=>(BF env a).bind fun p=>(BF env k).bind fun kv=>(BF env x).bind fun v=>(GM P m t p kv v).map (AV.undef,·)
 | _=>none
end
section
section
variable {g:Gh} {m:Mem} {w:World} {P:Program}
theorem AEP {op:BinOp} {k:IntKind} {a b:Int} {d:AV} (h:Cx op k a b=some d) (xt:TypeId):∃ v,(binOp op xt (.int k a) (.int k b)).run P w=.ok v w∧Rep g w d v:=by
 cases op <;> simp only[Cx] at h <;> try (injection h with h;subst h;refine⟨_,?_,.atom _ rfl⟩;simp[binOp,Op.intArith,Op.intBits,Op.intCmp])
 ·split at h
  ·cases h
  ·rename_i hb
   injection h with h;subst h
   exact⟨_,by simp[binOp,Op.intDiv,hb],.atom _ rfl⟩
 ·split at h
  ·cases h
  ·rename_i hb
   injection h with h;subst h
   exact⟨_,by simp[binOp,Op.intDiv,hb],.atom _ rfl⟩
 ·cases h
 ·cases h
theorem TO {t:TypeId} (h:P.underlying t=some .bool) (d:Nat) (a b:Bool):(Op.equalIn (d+1) t (.bool a) (.bool b)).run P w=.ok (a == b) w:=by
 simp[Op.equalIn,Au h]
theorem Nh {t:TypeId} (h:P.underlying t=some .bool) (a b:Bool):(Op.equal t (.bool a) (.bool b)).run P w=.ok (a == b) w :=
 TO h 9999 a b
theorem US {t e:TypeId} (h:P.underlying t=some (.pointer e)) (d:Nat) (a:Addr):(Op.equalIn (d+1) t (.pointer (some a)) (.pointer none)).run P w=.ok false w:=by
 simp[Op.equalIn,Au h]
theorem PA {t e:TypeId} (h:P.underlying t=some (.pointer e)) (a:Addr):(Op.equal t (.pointer (some a)) (.pointer none)).run P w=.ok false w :=
 US h 9999 a
theorem UE {t e:TypeId} (h:P.underlying t=some (.pointer e)) (d:Nat):(Op.equalIn (d+1) t (.pointer none) (.pointer none)).run P w=.ok true w:=by
 simp[Op.equalIn,Au h]
theorem PG {t e:TypeId} (h:P.underlying t=some (.pointer e)):(Op.equal t (.pointer none) (.pointer none)).run P w=.ok true w :=
 UE h 9999
theorem AJk {op:UnOp} {x d:AV} {vx:Value} (h:aun op x=some d) (hx:Rep g w x vx):∃ v,(Op.unary op vx).run P w=.ok v w∧Rep g w d v:=by
 unfold aun at h
 split at h
 ·obtain rfl:=hx.atom_inv
  simp only[Cx] at h
  injection h with h;subst h
  exact⟨_,by simp[Op.unary,Op.intArith],.atom _ rfl⟩
 ·obtain rfl:=hx.atom_inv
  simp only[Cx] at h
  injection h with h;subst h
  exact⟨_,by simp[Op.unary,Op.intBits],.atom _ rfl⟩
 ·obtain rfl:=hx.atom_inv
  injection h with h;subst h
  exact⟨_,by simp[Op.unary],.atom _ rfl⟩
 ·cases h
theorem Rep.ptr_inv {l off:Nat} {v:Value} (h:Rep g w (.ptr l off) v):∃ b,g.box l=some b∧v=.pointer (some ⟨b,off,none⟩):=by
 generalize hx:AV.ptr l off=x at h
 cases h <;> cases hx
 exact⟨_,by assumption,rfl⟩
theorem Rep.eptr_inv {e:AV} {off:Nat} {v:Value} (h:Rep g w (.eptr e off) v):∃ b o,v=.pointer (some ⟨b,o+off,none⟩)∧Ij g w b o e.cells∧Imm g b (o+e.cells.length)∧e.cells≠[]:=by
 generalize hx:AV.eptr e off=x at h
 cases h <;> cases hx
 rename_i b o vals hi hc hr ho hn
 exact⟨b,o,rfl,⟨ho,fun j c hj=>⟨vals j,hc j (List.getElem?_eq_some_iff.1 hj).1,hr j c hj⟩⟩,hi,hn⟩
theorem Rep.vptr_inv {id off:Nat} {v:Value} (h:Rep g w (.vptr id off) v):∃ a,v=.pointer (some a)∧a.spot=none∧g.row id≠none∧∀ b,g.row id=some (some b)→a=⟨b,off,none⟩:=by
 generalize hx:AV.vptr id off=x at h
 cases h <;> cases hx
 exact⟨_,rfl,by assumption,by assumption,by assumption⟩
theorem Addr.add_none {a:Addr} (h:a.spot=none) (n:Nat):(a.add n).spot=none∧a.add n=⟨a.block,a.off+n,none⟩:=by
 obtain⟨b,o,s⟩:=a
 dsimp only at h
 subst h
 rw[DV]
 exact⟨rfl,rfl⟩
theorem Addr.eq_none {a:Addr} (h:a.spot=none):a=⟨a.block,a.off,none⟩:=by
 obtain⟨b,o,s⟩:=a
 dsimp only at h
 subst h
 rfl
theorem Rep.vec_inv {id off len sz:Nat} {k:Cap} {v:Value} (h:Rep g w (.vec id off len sz k) v):∃ a cap,v=.slice (some a) len cap∧a.spot=none∧0<sz∧len≤cap∧(k=.full→cap=len)∧g.row id≠none ∧
  ∀ b,g.row id=some (some b)→a=⟨b,off,none⟩∧∃ arr t,w.heap[b]?=some (.cells arr t (0,0))∧off+cap * sz≤arr.size∧(k=.opn→off+cap * sz=arr.size):=by
 generalize hx:AV.vec id off len sz k=x at h
 cases h <;> cases hx
 exact⟨_,_,rfl,by assumption,by assumption,by assumption,by assumption,by assumption,by assumption⟩
theorem Aa.rowAt (hm:Aa g m w) {id n:Nat} {cs:List AV} (hr:m.rows[id]?=some (some (n,cs))) (hg:g.row id≠none):∃ b,g.row id=some (some b)∧g.hw id=n∧∃ arr t,w.heap[b]?=some (.cells arr t (0,0))∧cs.length≤arr.size ∧
  (∀ c∈cs,c.one=true)∧(∀ (j:Nat) (c:AV) (v:Value),cs[j]?=some c→arr[j]?=some v→Rep g w c v)∧Ij g w b 0 cs:=by
 obtain⟨b,hb,hw⟩:=hm.rowLive id _ hr hg
 obtain⟨arr,t,ha,hl,hc⟩:=hm.rowOk id b n cs hb hr
 have h1:∀ c∈cs,c.one=true:=fun c hc'=>by
  obtain⟨j,hj,he⟩:=List.getElem_of_mem hc'
  exact(hc j c (by rw[← he];exact List.getElem?_eq_getElem hj)).1
 refine⟨b,hb,hw,arr,t,ha,hl,h1,fun j c v hj hv=>(hc j c hj).2 v hv,h1,fun j c hj=>?_⟩
 have hlt:j<arr.size:=Nat.lt_of_lt_of_le (List.getElem?_eq_some_iff.1 hj).1 hl
 refine⟨arr[j],?_,(hc j c hj).2 _ (Array.getElem?_eq_getElem hlt)⟩
 unfold World.cell?
 dsimp only
 rw[ha]
 simp[hlt]
theorem Rep.eptr_mk {e:AV} {off b o:Nat} (hc:Ij g w b o e.cells) (hi:Imm g b (o+e.cells.length)) (hn:e.cells≠[]):Rep g w (.eptr e off) (.pointer (some ⟨b,o+off,none⟩)):=by
 obtain⟨vals,hv⟩:=hc.vals
 exact .eptr e off b o vals hi (fun j hj=>(hv j _ (List.getElem?_eq_getElem hj)).1) (fun j c hj=>(hv j c hj).2) hc.1 hn
theorem Rep.slice_inv {own:Own} {es:List AV} {v:Value} (h:Rep g w (.slice own es) v):(es=[]∧∃ a0 cap0,v=.slice a0 0 cap0∧(own=.full→cap0=0)∧∀ id,own≠.row id) ∨
  ∃ b o cap sz,v=.slice (some ⟨b,o,none⟩) es.length cap∧0<sz∧(∀ e∈es,e.cells.length=sz)∧(es≠[]→Imm g b (o+es.length * sz))∧(∀ (i:Nat) (e:AV),es[i]?=some e→Ij g w b (o+i * sz) e.cells)∧es.length≤cap∧Ig g w own b o es.length cap sz:=by
 generalize hx:AV.slice own es=x at h
 cases h <;> cases hx
 ·exact .inl ⟨rfl,_,_,rfl,by assumption,by assumption⟩
 ·rename_i b o cap sz vals hz hs hi hc hr ho hcap hown
  refine .inr ⟨b,o,cap,sz,rfl,hz,hs,hi,fun i e hie=>⟨fun c hc'=>ho e (List.mem_of_getElem? hie) c hc',fun j c hj=>⟨vals (i * sz+j),?_,hr i j e c hie hj⟩⟩,hcap,hown⟩
  have h1:i<es.length:=(List.getElem?_eq_some_iff.1 hie).1
  have h2:j<sz:=by rw[← hs e (List.mem_of_getElem? hie)];exact(List.getElem?_eq_some_iff.1 hj).1
  rw[Nat.add_assoc]
  refine hc _ ?_
  calc i * sz+j<i * sz+sz:=by omega
   _=(i+1) * sz:=by rw[Nat.succ_mul]
   _≤es.length * sz:=Nat.mul_le_mul_right _ h1
theorem Rep.slice_mk {own:Own} {es:List AV} {b o cap sz:Nat} (hz:0<sz) (hs:∀ e∈es,e.cells.length=sz) (hi:es≠[]→Imm g b (o+es.length * sz))
  (hc:∀ (i:Nat) (e:AV),es[i]?=some e→Ij g w b (o+i * sz) e.cells) (hcap:es.length≤cap) (hown:Ig g w own b o es.length cap sz):Rep g w (.slice own es) (.slice (some ⟨b,o,none⟩) es.length cap):=by
 let vals:Nat→Value:=fun j=>(w.cell? ⟨b,o+j,none⟩).getD undef
 have key:∀ (i j:Nat) (e c:AV),es[i]?=some e→e.cells[j]?=some c→w.cell? ⟨b,o+(i * sz+j),none⟩=some (vals (i * sz+j))∧Rep g w c (vals (i * sz+j)):=by
  intro i j e c hi hj
  obtain⟨v,h1,h2⟩:=(hc i e hi).2 j c hj
  rw[Nat.add_assoc] at h1
  simp only[vals,h1,Option.getD_some]
  exact⟨trivial,h2⟩
 refine .slice own es b o cap sz vals hz hs hi (fun j hj=>?_) (fun i j e c hi hj=>(key i j e c hi hj).2) (fun e he c hc'=>?_) hcap hown
 ·have h1:j / sz<es.length:=(Nat.div_lt_iff_lt_mul hz).2 hj
  have h2:j % sz<sz:=Nat.mod_lt _ hz
  have h3:(es[j / sz]).cells.length=sz:=hs _ (List.getElem_mem ..)
  have:=(key (j / sz) (j % sz) es[j / sz] ((es[j / sz]).cells[j % sz]'(by omega)) (List.getElem?_eq_getElem h1) (List.getElem?_eq_getElem (by omega))).1
  rw[Nat.mul_comm,Nat.div_add_mod] at this
  exact this
 ·obtain⟨i,hi',hie⟩:=List.getElem_of_mem he
  exact(hc i e (by rw[← hie];exact List.getElem?_eq_getElem hi')).1 c hc'
theorem Imm.mono {b n n':Nat} (h:Imm g b n) (hle:n'≤n):Imm g b n':=⟨h.1,fun id hid=>Nat.le_trans hle (h.2 id hid)⟩
theorem NI {i n s:Nat} (h:i<n):i * s+s≤n * s:=by
 calc i * s+s=(i+1) * s:=by rw[Nat.succ_mul]
  _≤n * s:=Nat.mul_le_mul_right _ h
theorem DX {t e:TypeId} (h:Bn P t=some e):P.underlying t=some (.slice e):=by
 unfold Bn at h
 split at h
 ·injection h with h;subst h;assumption
 ·cases h
theorem Jt {t e:TypeId} {n:Nat} (h:Ec P t=some (n,e)):P.underlying t=some (.array n e):=by
 unfold Ec at h
 split at h
 ·injection h with h;injection h with h1 h2;subst h1 h2;assumption
 ·cases h
theorem XM {t:TypeId} {x i d:AV} {vx vi:Value} (h:EM P t x i=some d) (hx:Rep g w x vx) (hi:Rep g w i vi):∃ v,(Instr.indexAt t vx vi).run P w=.ok v w∧Rep g w d v:=by
 unfold EM at h
 split at h
 ·rename_i k n own es
  obtain rfl:=hi.atom_inv
  split at h
  ·rename_i e he
   split at h
   ·rename_i s hs
    split at h
    ·rename_i h0
     split at h
     ·rename_i a ha
      split at h
      ·rename_i hc
       injection h with h;subst h
       obtain⟨hc,hne⟩:=hc
       have hlt:n.toNat<es.length:=(List.getElem?_eq_some_iff.1 ha).1
       rcases hx.slice_inv with⟨rfl,_⟩|⟨b,o,cap,sz,rfl,hz,hsz,himm,hcell,_,_⟩
       ·simp at hlt
       ·have hss:sz=s:=by rw[← hsz a (List.mem_of_getElem? ha),hc]
        subst hss
        refine⟨.pointer (some ⟨b,o+n.toNat * sz,none⟩),?_,?_⟩
        ·have h1:n<(es.length:Int):=by omega
         simp[Instr.indexAt,asIntOf,Au (DX he),Cb hs,h0,h1,DV]
        ·refine Rep.eptr_mk (o:=o+n.toNat * sz) (hcell n.toNat a ha) (Imm.mono (himm (by rintro rfl;simp at hlt)) ?_) hne
         rw[hc];have:=NI (s:=sz) hlt;omega
      ·cases h
     ·cases h
    ·cases h
   ·cases h
  ·cases h
 ·rename_i k n l off
  obtain rfl:=hi.atom_inv
  split at h
  ·rename_i len e he
   split at h
   ·rename_i s hs
    split at h
    ·rename_i h0
     injection h with h;subst h
     obtain⟨b,hb,rfl⟩:=hx.ptr_inv
     exact⟨_,by simp[Instr.indexAt,Instr.sureAddr,asIntOf,Au (Jt he),Cb hs,h0.1,h0.2,DV],.ptr l _ b hb⟩
    ·cases h
   ·cases h
  ·cases h
 ·rename_i k n a off
  obtain rfl:=hi.atom_inv
  split at h
  ·rename_i len e he
   split at h
   ·rename_i s hs
    split at h
    ·rename_i h0
     injection h with h;subst h
     obtain⟨b,o,rfl,hc,himm,hne⟩:=hx.eptr_inv
     exact⟨_,by simp[Instr.indexAt,Instr.sureAddr,asIntOf,Au (Jt he),Cb hs,h0.1,h0.2,DV,Nat.add_assoc],Rep.eptr_mk hc himm hne⟩
    ·cases h
   ·cases h
  ·cases h
 ·rename_i k n id off len sz c
  obtain rfl:=hi.atom_inv
  split at h
  ·rename_i e he
   split at h
   ·rename_i s hs
    split at h
    ·rename_i h0
     injection h with h;subst h
     obtain⟨rfl,h0,h1⟩:=h0
     obtain⟨a,cap,rfl,hspot,hz,hcap,hf,hg,ha⟩:=hx.vec_inv
     refine⟨.pointer (some (a.add (n.toNat * sz))),by simp[Instr.indexAt,asIntOf,Au (DX he),Cb hs,h0,h1],.vptr id _ _ (Addr.add_none hspot _).1 hg (fun b hb=>?_)⟩
     rw[(ha b hb).1,DV]
    ·cases h
   ·cases h
  ·cases h
 ·rename_i k n id off
  obtain rfl:=hi.atom_inv
  split at h
  ·rename_i len e he
   split at h
   ·rename_i s hs
    split at h
    ·rename_i h0
     injection h with h;subst h
     obtain⟨a,rfl,hspot,hg,ha⟩:=hx.vptr_inv
     exact⟨.pointer (some (a.add (n.toNat * s))),by simp[Instr.indexAt,Instr.sureAddr,asIntOf,Au (Jt he),Cb hs,h0.1,h0.2],.vptr id _ _ (Addr.add_none hspot _).1 hg (fun b hb=>by rw[ha b hb,DV])⟩
    ·cases h
   ·cases h
  ·cases h
 ·cases h
theorem Yu {t:TypeId} {x d:AV} {vx:Value} (h:Fo P m t x=some d) (hm:Aa g m w) (hx:Rep g w x vx):∃ v,(Instr.loadAt t vx).run P w=.ok v w∧Rep g w d v:=by
 unfold Fo at h
 split at h
 ·rename_i l off
  split at h
  ·rename_i cs hl
   obtain⟨b,hb,rfl⟩:=hx.ptr_inv
   obtain⟨arr,ty,h1,⟨h2,h3⟩,h4⟩:=hm.boxOk l b _ hb hl
   have hc:Ij g w b 0 cs:=⟨h4,fun j c hj=>by
    have hlt:j<arr.size:=by rw[h2];exact(List.getElem?_eq_some_iff.1 hj).1
    refine⟨arr[j],?_,h3 j c _ hj (Array.getElem?_eq_getElem hlt)⟩
    unfold World.cell?
    dsimp only
    rw[h1]
    simp[hlt]⟩
   obtain⟨v,h5,h6⟩:=NK hc h
   rw[Nat.zero_add] at h5
   exact⟨v,by simp[Instr.loadAt,Instr.sureAddr,h5],h6⟩
  ·cases h
 ·rename_i a off
  obtain⟨b,o,rfl,hc,_,_⟩:=hx.eptr_inv
  obtain⟨v,h5,h6⟩:=NK hc h
  exact⟨v,by simp[Instr.loadAt,Instr.sureAddr,h5],h6⟩
 ·rename_i id off
  split at h
  ·rename_i n cs hr
   obtain⟨a,rfl,hspot,hg,ha⟩:=hx.vptr_inv
   obtain⟨b,hb,_,arr,ty,_,_,_,_,hc⟩:=hm.rowAt hr hg
   rw[ha b hb]
   obtain⟨v,h5,h6⟩:=NK hc h
   rw[Nat.zero_add] at h5
   exact⟨v,by simp[Instr.loadAt,Instr.sureAddr,h5],h6⟩
  ·cases h
 ·cases h
theorem Kk {a:AV} (h:Bj a=true):∀ cs,a≠.tuple cs:=by
 rintro cs rfl
 simp[Bj] at h
theorem ADm {t:TypeId} {x y:AV} {vx vy:Value} {m':Mem} (h:FL P m t x y=some m') (hm:Aa g m w) (hx:Rep g w x vx) (hy:Rep g w y vy) :
  ∃ w',(Instr.storeAt t vx vy).run P w=.ok () w'∧As g m g m' w w'∧Aa g m' w':=by
 unfold FL at h
 split at h
 ·rename_i l off
  split at h
  ·rename_i cs n hl hn
   split at h
   ·rename_i hc
    injection h with h;subst h
    obtain⟨b,hb,rfl⟩:=hx.ptr_inv
    obtain⟨w',h1,h2,h3⟩:=Zk hm hb hl hn hy (Kk hc.2.2) hc.1 hc.2.1
    exact⟨w',by simp[Instr.storeAt,Instr.sureAddr,h1],h2,h3⟩
   ·cases h
  ·cases h
 ·rename_i id off
  split at h
  ·rename_i cs n hr hn
   split at h
   ·rename_i hc
    injection h with h;subst h
    obtain⟨a,rfl,hspot,hg,ha⟩:=hx.vptr_inv
    obtain⟨b,hb,hw,arr,ty,h1,hl,h4,h3,_⟩:=hm.rowAt hr hg
    rw[ha b hb]
    obtain⟨⟨h5,h6⟩,h7⟩:=hy.cells (Kk hc.2.2)
    have hone:∀ x∈vy.cells.toList,x.oneCell'=true:=by
     intro x hx
     obtain⟨j,hj,he⟩:=List.getElem_of_mem hx
     have hj':j<vy.cells.size:=by simpa using hj
     have h8:vy.cells[j]?=some x:=by rw[Array.getElem?_eq_getElem hj'];simpa using he
     obtain⟨c,hc⟩:∃ c,y.cells[j]?=some c:=⟨_,List.getElem?_eq_getElem (by omega)⟩
     rw[← (h6 j c x hc h8).one_iff]
     exact h7 c (List.mem_of_getElem? hc)
    obtain⟨arr',h8,h9,h10⟩:=Io (P:=P) (b:=b) (o:=off) (t:=ty) vy.cells.toList 0 arr w h1 (by simp;omega) hone
    have hlm:id<m.rows.length:=(List.getElem?_eq_some_iff.1 hr).1
    have hs:=Kt (n:=0) (ks:=Ca cs off y.cells) hb hlm h1 h9 (fun j hj=>by omega) hm
    refine⟨Dl w b (.cells arr' ty (0,0)),by simp[Instr.storeAt,Instr.sureAddr,storeVar,Cb hn,h5,hc.1,h8],hs,On hb hr h1 h9 (fun j hj=>by omega) hm (by rw[Hm (by omega)];omega) (fun j c hj=>⟨LX h4 h7 c (List.mem_of_getElem? hj),fun x hx=>?_⟩)⟩
    rw[LY (by omega)] at hj
    rw[h10 j] at hx
    simp only[Nat.add_zero,Array.length_toList] at hx
    by_cases e:off≤j∧j<off+y.cells.length
    ·rw[if_pos e] at hj
     rw[if_pos (by omega)] at hx
     exact h6 (j - off) c x hj (by simpa using hx)
    ·rw[if_neg e] at hj
     rw[if_neg (by omega)] at hx
     exact h3 j c x hj hx
   ·cases h
  ·cases h
 ·cases h
theorem ZR {t ft:TypeId} {f o:Nat} (h:BI P t f=some (ft,o)):∃ fs fd,P.underlying t=some (.struct fs)∧fs[f]?=some fd∧fd.type=ft∧fd.offset=o:=by
 unfold BI at h
 split at h
 ·rename_i fs hu
  cases hf:fs[f]? with
  | none=>rw[hf] at h;cases h
  | some fd=>rw[hf] at h;injection h with h;injection h with h1 h2;exact⟨fs,fd,hu,hf,h1,h2⟩
 ·cases h
theorem Xr {t:TypeId} {x d:AV} {vx:Value} {f:Nat} (h:GH P t x f=some d) (hx:Rep g w x vx):∃ v,(Instr.fieldAt t vx f).run P w=.ok v w∧Rep g w d v:=by
 unfold GH at h
 split at h
 ·rename_i ft o hf
  obtain⟨fs,fd,hu,hfd,h1,h2⟩:=ZR hf
  split at h
  ·rename_i n hn
   have hpl:∀ a:Addr,(fieldPlace a fd).run P w=.ok (a.add o) w:=by
    intro a
    simp[fieldPlace,h1,h2,Cb hn]
   split at h
   ·rename_i l off
    injection h with h;subst h
    obtain⟨b,hb,rfl⟩:=hx.ptr_inv
    exact⟨_,by simp[Instr.fieldAt,Instr.sureAddr,Au hu,hfd,hpl,DV],.ptr l _ b hb⟩
   ·rename_i a off
    injection h with h;subst h
    obtain⟨b,o',rfl,hc,himm,hne⟩:=hx.eptr_inv
    exact⟨_,by simp[Instr.fieldAt,Instr.sureAddr,Au hu,hfd,hpl,DV,Nat.add_assoc],Rep.eptr_mk hc himm hne⟩
   ·rename_i id off
    injection h with h;subst h
    obtain⟨a,rfl,hspot,hg,ha⟩:=hx.vptr_inv
    exact⟨.pointer (some (a.add o)),by simp[Instr.fieldAt,Instr.sureAddr,Au hu,hfd,hpl],.vptr id _ _ (Addr.add_none hspot _).1 hg (fun b hb=>by rw[ha b hb,DV])⟩
   ·cases h
  ·cases h
 ·cases h
theorem Rep.agg_inv {cs:List AV} {v:Value} (h:Rep g w (.agg cs) v):∃ vs,v=.agg vs∧Bi g w cs vs∧∀ c∈cs,c.one=true:=by
 generalize hx:AV.agg cs=x at h
 cases h <;> cases hx
 exact⟨_,rfl,⟨by assumption,by assumption⟩,by assumption⟩
theorem RG {t:TypeId} {cs:List AV} {vs:Array Value} {off:Nat} {d:AV} (h:Fa P t cs off=some d) (hr:Bi g w cs vs) (ho:∀ c∈cs,c.one=true):∃ v,(part t vs off).run P w=.ok v w∧Rep g w d v:=by
 unfold Fa at h
 split at h
 ·rename_i n h1 h2
  split at h
  ·rename_i hle
   injection h with h;subst h
   refine⟨.agg (vs.extract off (off+n)),by simp[part,ND h1,Cb h2],.agg _ _ ?_ (fun c hc=>ho c (List.mem_of_mem_drop (List.mem_of_mem_take hc))) (fun j c v hc hv=>?_)⟩
   ·have:=hr.1;simp;omega
   ·have hj:j<n:=by
     have:=(List.getElem?_eq_some_iff.1 hc).1;simp at this;omega
    rw[List.getElem?_take_of_lt hj,List.getElem?_drop] at hc
    have hl:=hr.1
    rw[Array.getElem?_extract_of_lt (by omega)] at hv
    exact hr.2 _ c v hc (by rw[Array.getElem?_eq_getElem (by omega)];exact hv)
  ·cases h
 ·rename_i n h1 h2
  have hlt:off<vs.size:=by rw[hr.1];exact(List.getElem?_eq_some_iff.1 h).1
  exact⟨vs[off],by simp[part,ND h1,Array.getElem?_eq_getElem hlt],hr.2 off d _ h (Array.getElem?_eq_getElem hlt)⟩
 ·cases h
theorem XF {cmp:TypeId→AV→AV→Option Bool} {mc:TypeId→Value→Value→Sem Bool} (hcmp:∀ t x y b,cmp t x y=some b→∀ vx vy,Rep g w x vx→Rep g w y vy→(mc t vx vy).run P w=.ok b w) {xs ys:List AV} {vx vy:Array Value} (hx:Bi g w xs vx) (hy:Bi g w ys vy) (hxo:∀ c∈xs,c.one=true) (hyo:∀ c∈ys,c.one=true)
  {α:Type} (tt:α→TypeId) (to:α→Nat) (body:α→Option Bool × Unit→Sem (ForInStep (Option Bool × Unit))) :
  ∀ (l:List α) (r:Bool),(∀ f∈l,∀ s,body f s=(do let a ← part (tt f) vx (to f);let b ← part (tt f) vy (to f);let r ← mc (tt f) a b;if r=false then pure (ForInStep.done (some false,())) else pure (ForInStep.yield (none,())))) →
   Sl P cmp xs ys (l.map fun f=>(tt f,to f))=some r→(forIn l (none,()) body).run P w=.ok ((if r then none else some false),()) w:=by
 intro l
 induction l with
 | nil=>intro r _ h;simp only[List.map_nil,Sl] at h;injection h with h;subst h;simp
 | cons f l ih =>
  intro r hbody h
  simp only[List.map_cons,Sl] at h
  split at h
  ·rename_i a b ha hb
   split at h
   ·rename_i p q hp hq
    injection h with h;subst h
    obtain⟨va,h1,h2⟩:=RG ha hx hxo
    obtain⟨vb,h3,h4⟩:=RG hb hy hyo
    have h5:=hcmp _ _ _ _ hp va vb h2 h4
    have h6:=ih q (fun f hf=>hbody f (List.mem_cons_of_mem _ hf)) hq
    simp only[List.forIn_cons,Sem.run_bind,hbody f (List.mem_cons_self ..),h1,h3,h5,Result.andThen_ok]
    cases p <;> simp[h6]
   ·cases h
  ·cases h
theorem AEU:∀ (d:Nat) (t:TypeId) (x y:AV) (b:Bool),aeq P d t x y=some b→∀ (n:Nat),d≤n→∀ vx vy,Rep g w x vx→Rep g w y vy→(Op.equalIn n t vx vy).run P w=.ok b w:=by
 intro d
 induction d with
 | zero=>intro t x y b h;cases h
 | succ d ih =>
  intro t x y b h n hn vx vy hx hy
  obtain⟨n,rfl⟩:∃ k,n=k+1:=⟨n - 1,by omega⟩
  unfold aeq at h
  split at h
  ·rename_i heq;cases heq
  ·rename_i xs ys heq
   injection heq with heq;subst heq
   obtain⟨vs,rfl,hvs,hvo⟩:=hx.agg_inv
   obtain⟨us,rfl,hus,huo⟩:=hy.agg_inv
   have hcmp:∀ t x y b,aeq P d t x y=some b→∀ vx vy,Rep g w x vx→Rep g w y vy→(Op.equalIn n t vx vy).run P w=.ok b w:=fun t x y b h vx vy hx hy=>ih t x y b h n (by omega) vx vy hx hy
   split at h
   ·rename_i l hl
    unfold MG at hl
    split at hl
    ·rename_i fs hu
     split at hl
     ·rename_i hc
      injection hl with hl;subst hl
      simp only[Bool.and_eq_true,Bool.not_eq_true'] at hc
      have hnm : ∀ f ∈ fs.toList, f.name ≠ "_" := by
       intro f hf
       have:=hc.1
       rw[← Array.all_toList] at this
       simpa using List.all_eq_true.1 this f hf
      have hloop:=fun body hbody=>XF (body:=body) hcmp hvs hus hvo huo (fun f:Field=>f.type) (fun f:Field=>f.offset) fs.toList b hbody h
      simp only[Op.equalIn,Sem.run_bind,Au hu,Result.andThen_ok]
      simp[hc.2]
      rw[← Array.forIn_toList,hloop _ (fun f hf s=>by simp[hnm f hf])]
      cases b <;> simp
     ·cases hl
    ·cases hl
   ·split at h
    ·rename_i m e he
     split at h
     ·rename_i s hs
      have hloop:=fun body hbody=>XF (body:=body) hcmp hvs hus hvo huo (fun _:Nat=>e) (fun i:Nat=>i * s) (List.range' 0 m) b hbody h
      simp only[Op.equalIn,Sem.run_bind,Au (Jt he),Result.andThen_ok]
      simp[Cb hs]
      rw[hloop _ (fun f hf s=>by simp)]
      cases b <;> simp
     ·cases h
    ·cases h
  ·rename_i k a k' b' heq
   injection heq with heq;subst heq
   obtain rfl:=hx.atom_inv
   obtain rfl:=hy.atom_inv
   split at h
   ·rename_i hu
    split at h
    ·rename_i hk;subst hk;injection h with h;subst h
     simp[Op.equalIn,Au hu]
    ·cases h
   ·cases h
  ·rename_i a b' heq
   injection heq with heq;subst heq
   obtain rfl:=hx.atom_inv
   obtain rfl:=hy.atom_inv
   split at h
   ·rename_i hu;injection h with h;subst h;simp[Op.equalIn,Au hu]
   ·cases h
  ·rename_i a b' heq
   injection heq with heq;subst heq
   obtain rfl:=hx.atom_inv
   obtain rfl:=hy.atom_inv
   split at h
   ·rename_i hu;injection h with h;subst h;simp[Op.equalIn,Au hu]
   ·cases h
  ·cases h
theorem AJQ {op:BinOp} {xt:TypeId} {x y d:AV} {vx vy:Value} (ox oy:Operand) (h:Bq P op xt x y=some d) (hx:Rep g w x vx) (hy:Rep g w y vy) :
  ∃ v,(do eqGuard op xt ox oy vx vy;binOp op xt vx vy:Sem Value).run P w=.ok v w∧Rep g w d v:=by
 unfold Bq at h
 split at h
 ·rename_i k a k' b
  obtain rfl:=hx.atom_inv
  obtain rfl:=hy.atom_inv
  have hg:(eqGuard op xt ox oy (.int k a) (.int k' b)).run P w=.ok () w:=by
   unfold eqGuard
   cases op <;> simp
  simp only[Sem.run_bind,hg,Result.andThen_ok]
  split at h
  ·simp only[Nb] at h
   split at h
   ·cases h
   ·rename_i hb
    injection h with h;subst h
    exact⟨_,by simp[binOp,Op.shift,hb],.atom _ rfl⟩
  ·simp only[Nb] at h
   split at h
   ·cases h
   ·rename_i hb
    injection h with h;subst h
    exact⟨_,by simp[binOp,Op.shift,hb],.atom _ rfl⟩
  ·split at h
   ·rename_i hk
    subst hk
    exact AEP h xt
   ·cases h
 ·rename_i a b
  obtain rfl:=hx.atom_inv
  obtain rfl:=hy.atom_inv
  have hg:(eqGuard op xt ox oy (.bool a) (.bool b)).run P w=.ok () w:=by
   unfold eqGuard
   cases op <;> simp
  simp only[Sem.run_bind,hg,Result.andThen_ok]
  split at h
  ·rename_i hu
   injection h with h;subst h
   exact⟨_,by simp only[binOp,Sem.run_bind,Nh hu,Result.andThen_ok,Sem.run_pure],.atom _ rfl⟩
  ·rename_i hu
   injection h with h;subst h
   exact⟨_,by simp only[binOp,Sem.run_bind,Nh hu,Result.andThen_ok,Sem.run_pure],.atom _ rfl⟩
  ·cases h
 ·rename_i xs ys
  obtain⟨vs,rfl,_⟩:=hx.agg_inv
  obtain⟨us,rfl,_⟩:=hy.agg_inv
  have hg:Kx P xt=false→(eqGuard op xt ox oy (.agg vs) (.agg us)).run P w=.ok () w:=by
   intro hgt
   unfold Kx at hgt
   unfold eqGuard
   cases op <;> simp[hgt]
  split at h
  ·split at h
   ·rename_i hgd
    cases he:aeq P 9 xt (.agg xs) (.agg ys) with
    | none=>rw[he] at h;cases h
    | some b =>
     rw[he] at h;injection h with h;subst h
     have h1:=AEU 9 xt _ _ b he 10000 (by omega) _ _ hx hy
     exact⟨_,by simp only[Sem.run_bind,hg hgd,Result.andThen_ok,binOp,Op.equal,Op.maxDepth,h1,Sem.run_pure],.atom _ rfl⟩
   ·cases h
  ·split at h
   ·rename_i hgd
    cases he:aeq P 9 xt (.agg xs) (.agg ys) with
    | none=>rw[he] at h;cases h
    | some b =>
     rw[he] at h;injection h with h;subst h
     have h1:=AEU 9 xt _ _ b he 10000 (by omega) _ _ hx hy
     exact⟨_,by simp only[Sem.run_bind,hg hgd,Result.andThen_ok,binOp,Op.equal,Op.maxDepth,h1,Sem.run_pure],.atom _ rfl⟩
   ·cases h
  ·cases h
 ·rename_i l off
  have hv:∃ q,vx=.pointer (some q):=by cases hx;exact⟨_,rfl⟩
  obtain⟨q,rfl⟩:=hv
  obtain rfl:=hy.atom_inv
  have hg:(eqGuard op xt ox oy (.pointer (some q)) (.pointer none)).run P w=.ok () w:=by
   unfold eqGuard
   cases op <;> simp
  simp only[Sem.run_bind,hg,Result.andThen_ok]
  split at h
  ·rename_i hu
   injection h with h;subst h
   exact⟨.bool false,by simp only[binOp,Sem.run_bind,PA hu,Result.andThen_ok,Sem.run_pure],.atom _ rfl⟩
  ·rename_i hu
   injection h with h;subst h
   exact⟨.bool true,by simp only[binOp,Sem.run_bind,PA hu,Result.andThen_ok,Sem.run_pure];rfl,.atom _ rfl⟩
  ·cases h
 ·obtain rfl:=hx.atom_inv
  obtain rfl:=hy.atom_inv
  have hg:(eqGuard op xt ox oy (.pointer none) (.pointer none)).run P w=.ok () w:=by
   unfold eqGuard
   cases op <;> simp
  simp only[Sem.run_bind,hg,Result.andThen_ok]
  split at h
  ·rename_i hu
   injection h with h;subst h
   exact⟨.bool true,by simp only[binOp,Sem.run_bind,PG hu,Result.andThen_ok,Sem.run_pure],.atom _ rfl⟩
  ·rename_i hu
   injection h with h;subst h
   exact⟨.bool false,by simp only[binOp,Sem.run_bind,PG hu,Result.andThen_ok,Sem.run_pure];rfl,.atom _ rfl⟩
  ·cases h
 ·cases h
theorem ACx {t:TypeId} {x d:AV} {vx:Value} {f:Nat} (h:MO P t x f=some d) (hx:Rep g w x vx):∃ v,(Instr.field t vx f).run P w=.ok v w∧Rep g w d v:=by
 unfold MO at h
 split at h
 ·rename_i ft o cs hf
  obtain⟨fs,fd,hu,hfd,h1,h2⟩:=ZR hf
  obtain⟨vs,rfl,hr,ho⟩:=hx.agg_inv
  obtain⟨v,h3,h4⟩:=RG h hr ho
  exact⟨v,by simp[Instr.field,Au hu,hfd,asAgg,h1,h2,h3],h4⟩
 ·cases h
theorem AEr {t:TypeId} {x i d:AV} {vx vi:Value} (h:LD P t x i=some d) (hx:Rep g w x vx) (hi:Rep g w i vi):∃ v,(Instr.index t vx vi).run P w=.ok v w∧Rep g w d v:=by
 unfold LD at h
 split at h
 ·rename_i k n cs len e he
  obtain rfl:=hi.atom_inv
  obtain⟨vs,rfl,hr,ho⟩:=hx.agg_inv
  split at h
  ·rename_i s hs
   split at h
   ·rename_i h0
    obtain⟨v,h3,h4⟩:=RG h hr ho
    exact⟨v,by simp[Instr.index,asIntOf,Au (Jt he),Cb hs,h0.1,h0.2,h3],h4⟩
   ·cases h
  ·cases h
 ·cases h
theorem AHr {t:TypeId} {x d:AV} {vx:Value} (ty:TypeId) (ts:Array TypeId) (ht:ts[0]?=some t) (h:MS P t x=some d) (hx:Rep g w x vx):∃ v,(Builtin.len_ ts ty #[vx]).run P w=.ok v w∧Rep g w d v:=by
 unfold MS at h
 split at h
 ·rename_i own es e hu
  injection h with h;subst h
  rcases hx.slice_inv with⟨rfl,_,_,rfl,_⟩|⟨b,o,cap,sz,rfl,_⟩
  ·exact⟨_,by simp[Builtin.len_,ht,Au hu];rfl,.atom _ rfl⟩
  ·exact⟨_,by simp[Builtin.len_,ht,Au hu];rfl,.atom _ rfl⟩
 ·rename_i id off len sz k e hu
  injection h with h;subst h
  obtain⟨a,cap,rfl,_⟩:=hx.vec_inv
  exact⟨_,by simp[Builtin.len_,ht,Au hu];rfl,.atom _ rfl⟩
 ·rename_i s hu
  obtain rfl:=hx.atom_inv
  injection h with h;subst h
  exact⟨_,by simp[Builtin.len_,ht,Au hu];rfl,.atom _ rfl⟩
 ·rename_i n e hu
  injection h with h;subst h
  exact⟨_,by simp[Builtin.len_,ht,Au hu];rfl,.atom _ rfl⟩
 ·cases h
theorem Rep.forget {own:Own} {es:List AV} {v:Value} (h:Rep g w (.slice own es) v):Rep g w (.slice .foreign es) v:=by
 rcases h.slice_inv with⟨rfl,_,_,rfl,_⟩|⟨b,o,cap,sz,rfl,hz,hs,hi,hc,hcap,_⟩
 ·exact .nil _ _ _ (fun id e=>by cases e) (fun e=>by cases e)
 ·exact Rep.slice_mk hz hs hi hc hcap trivial
theorem AED {t:TypeId} {x d:AV} {lo hi mx:Option AV} {vx:Value} {vlo vhi vmx:Option Value} (h:GZ P t x lo hi mx=some d) (hx:Rep g w x vx)
  (h1:vlo.isSome=lo.isSome) (h2:vhi.isSome=hi.isSome) (h3:vmx.isSome=mx.isSome) (k1:∀ a v,lo=some a→vlo=some v→Rep g w a v) (k2:∀ a v,hi=some a→vhi=some v→Rep g w a v) (k3:∀ a v,mx=some a→vmx=some v→Rep g w a v) :
  ∃ v,(Instr.sliceAt t vx vlo vhi vmx).run P w=.ok v w∧Rep g w d v:=by
 unfold GZ at h
 split at h
 ·rename_i own es e he
  split at h
  ·rename_i s l hh k hs hl hhi hk
   split at h
   ·rename_i hc
    obtain⟨c1,c2,c3,c4,c5,c6,c7⟩:=hc
    injection h with h;subst h
    have hb:∀ (x:Option AV) (vx:Option Value) (d:Nat) (n:Int),vx.isSome=x.isSome→(∀ a v,x=some a→vx=some v→Rep g w a v)→GD x d=some n→(x=none∧vx=none∧n=d)∨(∃ kd,vx=some (.int kd n)∧x=some (.atom (.int kd n))):=by
     intro x vx d n hs hr ha
     cases x with
     | none=>cases vx with
      | none=>simp[GD] at ha;exact .inl ⟨rfl,rfl,ha.symm⟩
      | some v=>simp at hs
     | some a=>cases vx with
      | none=>simp at hs
      | some v =>
       have:=hr a v rfl rfl
       unfold GD at ha
       split at ha
       ·cases ‹some a=none›
       ·rename_i heq;injection heq with heq;subst heq;injection ha with ha;subst ha;exact .inr ⟨_,by rw[this.atom_inv],rfl⟩
       ·cases ha
    have bl:=hb lo vlo 0 l h1 k1 hl
    have bh:=hb hi vhi es.length hh h2 k2 hhi
    have bk:=hb mx vmx es.length k h3 k3 hk
    have hbound:∀ (kd:IntKind) (n:Int) (y:Nat) (cd:BoundsCode),0≤n→n≤y→(Instr.sliceBound (.int kd n) y cd).run P w=.ok n.toNat w:=by
     intro kd n y cd a b
     simp[Instr.sliceBound,asIntOf,a,b]
    have hsb:∀ cap,es.length≤cap→(Instr.sliceBounds true es.length cap vlo vhi vmx).run P w=.ok (l.toNat,hh.toNat,if mx.isSome then k.toNat else cap) w:=by
     intro cap hcap
     rcases bk with⟨rfl,rfl,rfl⟩|⟨kd,rfl,rfl⟩
     ·rcases bh with⟨rfl,rfl,rfl⟩|⟨kd,rfl,rfl⟩ <;> rcases bl with⟨rfl,rfl,rfl⟩|⟨kd',rfl,rfl⟩
      ·simp[Instr.sliceBounds]
      ·simp[Instr.sliceBounds,hbound kd' l es.length _ c1 c2]
      ·simp[Instr.sliceBounds,hbound kd hh cap _ (by omega) (by omega)]
      ·simp[Instr.sliceBounds,hbound kd hh cap _ (by omega) (by omega),hbound kd' l hh.toNat _ c1 (by omega)]
     ·rcases bh with⟨rfl,rfl,rfl⟩|⟨kd2,rfl,rfl⟩
      ·simp at c5
      ·rcases bl with⟨rfl,rfl,rfl⟩|⟨kd',rfl,rfl⟩
       ·simp[Instr.sliceBounds,hbound kd k cap _ (by omega) (by omega),hbound kd2 hh k.toNat _ (by omega) (by omega)]
       ·simp[Instr.sliceBounds,hbound kd k cap _ (by omega) (by omega),hbound kd2 hh k.toNat _ (by omega) (by omega),hbound kd' l hh.toNat _ c1 (by omega)]
    have hlen:((es.take hh.toNat).drop l.toNat).length=hh.toNat - l.toNat:=by simp;omega
    have hrun:∀ (a:Option Addr) (cap:Nat),es.length≤cap→(Instr.sliceAt t (.slice a es.length cap) vlo vhi vmx).run P w =
      .ok (.slice (if(if mx.isSome then k.toNat else cap)=l.toNat then a else a.map (·.add (l.toNat * s))) (hh.toNat - l.toNat) ((if mx.isSome then k.toNat else cap) - l.toNat)) w:=by
     intro a cap hcap
     simp[Instr.sliceAt,Instr.slice,Au (DX he),hsb cap hcap,Cb hs]
    rcases hx.slice_inv with⟨rfl,a0,cap0,rfl,hf0,_⟩|⟨b,o,cap,sz,rfl,hz,hsz,himm,hcell,hcap,_⟩
    ·have e0:l=0∧hh=0∧k=0:=by simp at c4;omega
     obtain⟨rfl,rfl,rfl⟩:=e0
     have:=hrun a0 cap0 (Nat.zero_le _)
     refine⟨_,this,?_⟩
     simp only[List.take_nil,List.drop_nil]
     refine .nil _ _ _ (fun id e=>by split at e <;> cases e) (fun e=>?_)
     split at e
     ·rename_i h5;rw[if_pos h5.1];rfl
     ·cases e
    ·refine⟨_,hrun _ cap hcap,?_⟩
     have key:∀ (own:Own) (a':Option Addr) (cap':Nat),(hh.toNat - l.toNat≠0→a'=some ⟨b,o+l.toNat * s,none⟩)→(∃ o',a'=some ⟨b,o',none⟩)→hh.toNat - l.toNat≤cap'→(∀ id,own≠.row id)→(own=.full→cap'=hh.toNat - l.toNat) →
       Rep g w (.slice own ((es.take hh.toNat).drop l.toNat)) (.slice a' (hh.toNat - l.toNat) cap'):=by
      intro own a' cap' ha1 ha2 hcap' hnr hf
      have hown:∀ o' sz',Ig g w own b o' ((es.take hh.toNat).drop l.toNat).length cap' sz':=by
       intro o' sz'
       cases own with
       | foreign=>trivial
       | full=>rw[hlen];exact hf rfl
       | row id=>exact absurd rfl (hnr id)
      by_cases h0:hh.toNat - l.toNat=0
      ·have hnil:(es.take hh.toNat).drop l.toNat=[]:=List.eq_nil_of_length_eq_zero (by rw[hlen];exact h0)
       obtain⟨o',rfl⟩:=ha2
       have:=Rep.slice_mk (g:=g) (w:=w) (own:=own) (es:=[]) (b:=b) (o:=o') (cap:=cap') (sz:=1) (by omega) (by simp) (fun h=>absurd rfl h) (by simp) (by simp) (by have:=hown o' 1;rw[hnil] at this;exact this)
       rw[hnil,h0]
       exact this
      ·rw[ha1 h0,← hlen]
       have hne:es≠[]:=by rintro rfl;simp at c4;omega
       have hss:sz=s:=by
        obtain⟨e0,h0'⟩:=List.exists_mem_of_ne_nil es hne
        rw[← hsz e0 h0',c6 e0 h0']
       subst hss
       refine Rep.slice_mk hz (fun e he=>hsz e (List.mem_of_mem_take (List.mem_of_mem_drop he))) (fun _=>Imm.mono (himm hne) ?_) (fun i e hie=>?_) (by rw[hlen];exact hcap') (hown _ _)
       ·rw[hlen,Nat.add_assoc,← Nat.add_mul]
        have:(l.toNat+(hh.toNat - l.toNat)) * sz≤es.length * sz:=Nat.mul_le_mul_right _ (by omega)
        omega
       ·rw[List.getElem?_drop] at hie
        have hlt:l.toNat+i<hh.toNat:=by
         have:=(List.getElem?_eq_some_iff.1 hie).1;simp at this;omega
        rw[List.getElem?_take_of_lt hlt] at hie
        have:=hcell _ e hie
        rw[Nat.add_mul,← Nat.add_assoc] at this
        exact this
     refine key _ _ _ ?_ ?_ ?_ ?_ ?_
     ·intro h0
      rw[if_neg (by split <;> omega)]
      simp[DV]
     ·by_cases hk0:(if mx.isSome then k.toNat else cap)=l.toNat
      ·exact⟨o,by rw[if_pos hk0]⟩
      ·exact⟨o+l.toNat * s,by rw[if_neg hk0];simp[DV]⟩
     ·split <;> omega
     ·intro id e
      split at e <;> cases e
     ·intro e
      split at e
      ·rename_i h5
       rw[if_pos h5.1];have:=h5.2;omega
      ·cases e
   ·cases h
  ·cases h
 ·rename_i id off len sz kc e he
  split at h
  ·rename_i s l hh k hs hl hhi hk
   split at h
   ·rename_i hc
    obtain⟨c1,c2,c3,c4,c5,rfl⟩:=hc
    have hb:∀ (x:Option AV) (vx:Option Value) (d:Nat) (n:Int),vx.isSome=x.isSome→(∀ a v,x=some a→vx=some v→Rep g w a v)→GD x d=some n→(x=none∧vx=none∧n=d)∨(∃ kd,vx=some (.int kd n)∧x=some (.atom (.int kd n))):=by
     intro x vx d n hs hr ha
     cases x with
     | none=>cases vx with
      | none=>simp[GD] at ha;exact .inl ⟨rfl,rfl,ha.symm⟩
      | some v=>simp at hs
     | some a=>cases vx with
      | none=>simp at hs
      | some v =>
       have:=hr a v rfl rfl
       unfold GD at ha
       split at ha
       ·cases ‹some a=none›
       ·rename_i heq;injection heq with heq;subst heq;injection ha with ha;subst ha;exact .inr ⟨_,by rw[this.atom_inv],rfl⟩
       ·cases ha
    have bl:=hb lo vlo 0 l h1 k1 hl
    have bh:=hb hi vhi len hh h2 k2 hhi
    have bk:=hb mx vmx len k h3 k3 hk
    have hbound:∀ (kd:IntKind) (n:Int) (y:Nat) (cd:BoundsCode),0≤n→n≤y→(Instr.sliceBound (.int kd n) y cd).run P w=.ok n.toNat w:=by
     intro kd n y cd a b
     simp[Instr.sliceBound,asIntOf,a,b]
    obtain⟨a,cap,rfl,hspot,hz,hcap,hfull,hg,hadr⟩:=hx.vec_inv
    have hsb:(Instr.sliceBounds true len cap vlo vhi vmx).run P w=.ok (l.toNat,hh.toNat,if mx.isSome then k.toNat else cap) w:=by
     rcases bk with⟨rfl,rfl,rfl⟩|⟨kd,rfl,rfl⟩
     ·rcases bh with⟨rfl,rfl,rfl⟩|⟨kd,rfl,rfl⟩ <;> rcases bl with⟨rfl,rfl,rfl⟩|⟨kd',rfl,rfl⟩
      ·simp[Instr.sliceBounds]
      ·simp[Instr.sliceBounds,hbound kd' l len _ c1 c2]
      ·simp[Instr.sliceBounds,hbound kd hh cap _ (by omega) (by omega)]
      ·simp[Instr.sliceBounds,hbound kd hh cap _ (by omega) (by omega),hbound kd' l hh.toNat _ c1 (by omega)]
     ·rcases bh with⟨rfl,rfl,rfl⟩|⟨kd2,rfl,rfl⟩
      ·simp at c5
      ·rcases bl with⟨rfl,rfl,rfl⟩|⟨kd',rfl,rfl⟩
       ·simp[Instr.sliceBounds,hbound kd k cap _ (by omega) (by omega),hbound kd2 hh k.toNat _ (by omega) (by omega)]
       ·simp[Instr.sliceBounds,hbound kd k cap _ (by omega) (by omega),hbound kd2 hh k.toNat _ (by omega) (by omega),hbound kd' l hh.toNat _ c1 (by omega)]
    have hrun:(Instr.sliceAt t (.slice (some a) len cap) vlo vhi vmx).run P w =
      .ok (.slice (if(if mx.isSome then k.toNat else cap)=l.toNat then some a else some (a.add (l.toNat * s))) (hh.toNat - l.toNat) ((if mx.isSome then k.toNat else cap) - l.toNat)) w:=by
     simp[Instr.sliceAt,Instr.slice,Au (DX he),hsb,Cb hs]
    refine⟨_,hrun,?_⟩
    obtain⟨cc,hcc,hcc1,hcc2⟩:∃ cc,(if mx.isSome then k.toNat else cap)=cc∧(mx.isSome=true→cc=k.toNat)∧(¬ mx.isSome=true→cc=cap):=⟨_,rfl,fun h=>if_pos h,fun h=>if_neg h⟩
    rw[hcc]
    have hle:cc≤cap∧hh.toNat≤cc:=by
     by_cases hm:mx.isSome=true
     ·have:=hcc1 hm;omega
     ·have:=hcc2 hm;omega
    split at h
    ·rename_i hlh
     injection h with h;subst h
     obtain⟨rfl,hpos⟩:=hlh
     have e0:l.toNat - l.toNat=0:=by omega
     rw[e0]
     obtain⟨adr,hadr'⟩:∃ adr:Addr,(if cc=l.toNat then some a else some (a.add (l.toNat * s)))=some ⟨adr.block,adr.off,none⟩:=by
      split
      ·exact⟨a,congrArg some (Addr.eq_none hspot)⟩
      ·exact⟨a.add (l.toNat * s),congrArg some (Addr.eq_none (Addr.add_none hspot _).1)⟩
     rw[hadr']
     refine Rep.slice_mk (es:=[]) (sz:=1) (by omega) (by simp) (fun h=>absurd rfl h) (by simp) (by simp) ?_
     split
     ·rename_i hm
      have:=hcc1 hm.1
      have h2:=hm.2
      simp only[Ig,List.length_nil];omega
     ·trivial
    ·rename_i hlh
     injection h with h;subst h
     have hn:(hh - l).toNat=hh.toNat - l.toNat:=by omega
     rw[hn]
     have hadr':(if cc=l.toNat then some a else some (a.add (l.toNat * s)))=some (a.add (l.toNat * s)):=by
      split
      ·rename_i e1
       have:l.toNat=0:=by omega
       rw[this,Nat.zero_mul,(Addr.add_none hspot 0).2]
       exact congrArg some (Addr.eq_none hspot)
      ·rfl
     rw[hadr']
     refine .vec id _ _ s _ _ _ (Addr.add_none hspot _).1 hz (by omega) (fun hk'=>?_) hg (fun b hb=>?_)
     ·by_cases hmx:mx.isSome=true
      ·rw[if_pos hmx] at hk'
       have:=hcc1 hmx
       by_cases e1:hh=k
       ·subst e1;omega
       ·rw[if_neg e1] at hk';cases hk'
      ·rw[if_neg hmx] at hk'
       have:=hcc2 hmx
       by_cases e1:kc=.opn
       ·rw[if_pos e1] at hk';cases hk'
       ·rw[if_neg e1] at hk'
        by_cases e2:hh=len
        ·rw[if_pos e2] at hk';have:=hfull hk';omega
        ·rw[if_neg e2] at hk';cases hk'
     ·obtain⟨e1,arr,ty,h4,h5,h6⟩:=hadr b hb
      refine⟨by rw[e1,DV],arr,ty,h4,?_,fun hk'=>?_⟩
      ·have:l.toNat * s+(cc - l.toNat) * s≤cap * s:=by rw[← Nat.add_mul];exact Nat.mul_le_mul_right _ (by omega)
       omega
      ·by_cases hmx:mx.isSome=true
       ·rw[if_pos hmx] at hk'
        split at hk' <;> cases hk'
       ·rw[if_neg hmx] at hk'
        have e0:=hcc2 hmx
        have e2:kc=.opn:=by
         by_cases e2:kc=.opn
         ·exact e2
         ·rw[if_neg e2] at hk'
          by_cases e3:hh=len
          ·rw[if_pos e3] at hk';exact absurd hk' e2
          ·rw[if_neg e3] at hk';cases hk'
        have:=h6 e2
        have:l.toNat * s+(cc - l.toNat) * s=cap * s:=by rw[← Nat.add_mul];congr 1;omega
        omega
   ·cases h
  ·cases h
 ·cases h
end
end
section
theorem Bz {es:List AV} {s:Nat} (h:∀ e∈es,e.cells.length=s):(flatC es).length=es.length * s:=by
 induction es with
 | nil=>simp[flatC]
 | cons e es ih =>
  have h1:=ih (fun x hx=>h x (List.mem_cons_of_mem _ hx))
  have h2:=h e (List.mem_cons_self ..)
  simp only[flatC,List.flatMap_cons,List.length_append,List.length_cons] at *
  rw[h1,h2,Nat.succ_mul];omega
theorem Mh {es:List AV} {s:Nat} (hs:∀ e∈es,e.cells.length=s) {i j:Nat} {e:AV} (hi:es[i]?=some e) (hj:j<s):(flatC es)[i * s+j]?=e.cells[j]?:=by
 induction es generalizing i with
 | nil=>simp at hi
 | cons x es ih =>
  have hx:=hs x (List.mem_cons_self ..)
  simp only[flatC,List.flatMap_cons]
  cases i with
  | zero=>simp at hi;subst hi;rw[List.getElem?_append_left (by omega)];simp
  | succ i =>
   simp at hi
   rw[List.getElem?_append_right (by rw[hx,Nat.succ_mul];omega),hx]
   have:(i+1) * s+j - s=i * s+j:=by rw[Nat.succ_mul];omega
   rw[this]
   exact ih (fun y hy=>hs y (List.mem_cons_of_mem _ hy)) hi
theorem HS (a b:List AV):flatC (a++b)=flatC a++flatC b:=by simp[flatC]
section
variable {g:Gh} {m:Mem} {w:World} {P:Program}
theorem Rep.slice_cells {own:Own} {es:List AV} {v:Value} (h:Rep g w (.slice own es) v) {s:Nat} (hs:∀ e∈es,e.cells.length=s):∃ (a:Option Addr) (cap:Nat) (vals:Array Value),v=.slice a es.length cap ∧
  (Builtin.firstCells s es.length v).run P w=.ok vals w∧Bi g w (flatC es) vals∧∀ c∈flatC es,c.one=true:=by
 rcases h.slice_inv with⟨rfl,a0,cap0,rfl,_⟩|⟨b,o,cap,sz,rfl,hz,hsz,hi,hc,hcap,_⟩
 ·exact⟨a0,cap0,#[],rfl,by cases a0 <;> simp[Builtin.firstCells,loadCells,loadCellsFrom],⟨rfl,fun j a v h=>by simp[flatC] at h⟩,by simp[flatC]⟩
 ·by_cases hne:es=[]
  ·subst hne
   exact⟨_,cap,#[],rfl,by simp[Builtin.firstCells,loadCells,loadCellsFrom],⟨rfl,fun j a v h=>by simp[flatC] at h⟩,by simp[flatC]⟩
  ·have hss:sz=s:=by
    obtain⟨e0,h0⟩:=List.exists_mem_of_ne_nil es hne
    rw[← hsz e0 h0,hs e0 h0]
   subst hss
   have hone:∀ c∈flatC es,c.one=true:=by
    intro c hc'
    simp only[flatC,List.mem_flatMap] at hc'
    obtain⟨e,he,hce⟩:=hc'
    obtain⟨i,hi',hie⟩:=List.getElem_of_mem he
    exact(hc i e (by rw[← hie];exact List.getElem?_eq_getElem hi')).1 c hce
   have key:∀ k c,(flatC es)[k]?=some c→∃ v,w.cell? ⟨b,o+k,none⟩=some v∧Rep g w c v:=by
    intro k c hk
    have hkl:k<es.length * sz:=by rw[← Bz hs];exact(List.getElem?_eq_some_iff.1 hk).1
    have h1:k / sz<es.length:=(Nat.div_lt_iff_lt_mul hz).2 hkl
    have h2:k % sz<sz:=Nat.mod_lt _ hz
    have h3:=Mh hs (List.getElem?_eq_getElem h1) h2
    have h4:k / sz * sz+k % sz=k:=by rw[Nat.mul_comm];exact Nat.div_add_mod k sz
    rw[h4,hk] at h3
    obtain⟨v,h5,h6⟩:=(hc _ _ (List.getElem?_eq_getElem h1)).2 _ c h3.symm
    rw[Nat.add_assoc,h4] at h5
    exact⟨v,h5,h6⟩
   let vals:Nat→Value:=fun j=>(w.cell? ⟨b,o+j,none⟩).getD undef
   have hv:∀ k c,(flatC es)[k]?=some c→w.cell? ⟨b,o+k,none⟩=some (vals k)∧Rep g w c (vals k):=by
    intro k c hk
    obtain⟨v,h5,h6⟩:=key k c hk
    simp only[vals,h5,Option.getD_some]
    exact⟨trivial,h6⟩
   refine⟨_,cap,((List.range (es.length * sz)).map vals).toArray,rfl,?_,⟨by simp[Bz hs],fun j a v ha hv'=>?_⟩,hone⟩
   ·refine(LQ vals (fun j hj=>?_))
    exact(hv j _ (List.getElem?_eq_getElem (by rw[Bz hs];exact hj))).1
   ·have hj:j<es.length * sz:=by rw[← Bz hs];exact(List.getElem?_eq_some_iff.1 ha).1
    simp[List.getElem?_range hj] at hv'
    subst hv'
    exact(hv j a ha).2
theorem ABA {cs:List AV} {vs:Array Value} (hr:Bi g w cs vs) (ho:∀ c∈cs,c.one=true):∀ x∈vs.toList,x.oneCell'=true:=by
 intro x hx
 obtain⟨j,hj,he⟩:=List.getElem_of_mem hx
 have hj':j<vs.size:=by simpa using hj
 have h8:vs[j]?=some x:=by rw[Array.getElem?_eq_getElem hj'];simpa using he
 obtain⟨c,hc⟩:∃ c,cs[j]?=some c:=⟨_,List.getElem?_eq_getElem (by rw[← hr.1];exact hj')⟩
 rw[← (hr.2 j c x hc h8).one_iff]
 exact ho c (List.mem_of_getElem? hc)
theorem Rep.of_block {own:Own} {es:List AV} {b cap s:Nat} {arr:Array Value} {t:TypeId} (hz:0<s) (hs:∀ e∈es,e.cells.length=s) (ha:w.heap[b]?=some (.cells arr t (0,0))) (hi:Imm g b (es.length * s))
  (hl:es.length * s≤arr.size) (hr:∀ (j:Nat) (c:AV) (v:Value),(flatC es)[j]?=some c→arr[j]?=some v→Rep g w c v) (ho:∀ c∈flatC es,c.one=true) (hcap:es.length≤cap) (hown:Ig g w own b 0 es.length cap s) :
  Rep g w (.slice own es) (.slice (some ⟨b,0,none⟩) es.length cap):=by
 refine Rep.slice_mk hz hs (fun _=>by rw[Nat.zero_add];exact hi) (fun i e hie=>⟨fun c hc=>?_,fun j c hj=>?_⟩) hcap hown
 ·exact ho c (List.mem_flatMap.2 ⟨e,List.mem_of_getElem? hie,hc⟩)
 ·have h1:i<es.length:=(List.getElem?_eq_some_iff.1 hie).1
  have h2:j<s:=by rw[← hs e (List.mem_of_getElem? hie)];exact(List.getElem?_eq_some_iff.1 hj).1
  have h3:=NI (s:=s) h1
  have hlt:i * s+j<arr.size:=by omega
  refine⟨arr[i * s+j],?_,hr _ c _ (by rw[Mh hs hie h2];exact hj) (Array.getElem?_eq_getElem hlt)⟩
  unfold World.cell?
  dsimp only
  rw[ha]
  simp[Nat.zero_add,hlt]
theorem Ne (z:Array Value) (n:Nat):(Builtin.zeroCells z n).size=n * z.size:=by simp[Builtin.zeroCells]
theorem HZ:As g m g m w w.drew:=As.plain rfl rfl rfl (Nat.le_refl _) (fun _ _=>rfl)
theorem Kq:As g m g m w.drew w:=As.plain rfl rfl rfl (Nat.le_refl _) (fun _ _=>rfl)
theorem Hf (hm:Aa g m w):Aa g m w.drew:=hm.plain HZ (fun _ _=>rfl)
theorem UT {own:Own} {es ys:List AV} {vx vy:Value} {t xt e e':TypeId} {s by_:Nat} {m1:Mem} {g1:Gh} {cap:Nat} {a:Option Addr} (ty:TypeId) (he:Bn P t=some e) (he':Bn P xt=some e') (hs:Av P e=some s) (hb:ER P e=some by_)
  (h0:0<s) (hb0:0<by_) (hz:Dh P e=some s) (hroom:(es.length+ys.length) * by_≤Fd) (hes:∀ e∈es,e.cells.length=s) (hys:∀ e∈ys,e.cells.length=s)
  (hx:Rep g w (.slice own es) vx) (hy:Rep g w (.slice .foreign ys) vy) (hvx:vx=.slice a es.length cap) (hcap:cap<es.length+ys.length)
  (hm:Aa g m w) (hf:DR g m (m1.pushRow ((es.length+ys.length) * s))) (hst:As g m g1 m1 w w) (hm1:Aa g1 m1 w) (hone:m.rows.length=m1.rows.length) :
  ∃ v w',(Builtin.append_ #[t,xt] ty #[vx,vy]).run P w=.ok v w'∧∃ g',As g m g' (m1.pushRow ((es.length+ys.length) * s)) w w'∧Aa g' (m1.pushRow ((es.length+ys.length) * s)) w'∧Rep g' w' (.slice (.row m.rows.length) (es++ys)) v:=by
 obtain⟨a1,c1,xs,e1,hx1,hx2,hx3⟩:=(hx.step hm HZ).slice_cells (P:=P) hes
 obtain⟨a2,c2,yv,e2,hy1,hy2,hy3⟩:=(hy.step hm HZ).slice_cells (P:=P) hys
 obtain⟨inf,hi1,hi2⟩:=Sb hb
 obtain⟨zv,hzv,hzs⟩:∃ zv,(P.info? e).bind (·.zero)=some zv∧zv.cells.size=s:=by
  unfold Dh at hz
  cases h:(P.info? e).bind (·.zero) with
  | none=>rw[h] at hz;cases hz
  | some zv=>rw[h] at hz;injection hz with hz;exact⟨zv,rfl,hz⟩
 have hneed:¬ (es.length+ys.length≤cap):=by omega
 have hgrow:¬ (2 ^ 48<Builtin.nextslicecap (es.length+ys.length) cap * inf.bytes):=by
  have:=growslice_fits (need:=es.length+ys.length) (old:=cap) (bytes:=inf.bytes) hcap (by rw[hi2];exact hroom)
  omega
 have hib:inf.bytes≠0:=by omega
 subst hvx
 subst e2
 obtain⟨nc,hnc1,hnc2⟩:∃ nc,nc=(Question.appendCap (es.length+ys.length) cap e).cut (w.tape w.drawn (.appendCap (es.length+ys.length) cap e))∧es.length+ys.length≤nc:=⟨_,rfl,by simp[Question.cut]⟩
 have hrun:(Builtin.append_ #[t,xt] ty #[.slice a es.length cap,.slice a2 ys.length c2]).run P w =
   .ok (.slice (some ⟨w.heap.size,0,none⟩) (es.length+ys.length) nc) (w.drew.alloc (.cells (xs++yv++Builtin.zeroCells zv.cells (nc - (es.length+ys.length))) e (0,0))):=by
  simp[-run_choose,Builtin.append_,Builtin.lenOf,Au (DX he),Au (DX he'),Cb hs,hi1,hneed,hgrow,hib,hx1,hy1,Fv hzv,newRow,Question.forced,← hnc1]
 have hst2:As g m g1 m1 w w.drew:=hst.trans HZ hm
 have hm2:Aa g1 m1 w.drew:=Hf hm1
 have hf2:DR g1 m1 (m1.pushRow ((es.length+ys.length) * s)):=hf.right hst
 have hst3:=Ko (.cells (xs++yv++Builtin.zeroCells zv.cells (nc - (es.length+ys.length))) e (0,0)) ((es.length+ys.length) * s) [] hf2 hm2
 have hm3:=Oq (xs++yv++Builtin.zeroCells zv.cells (nc - (es.length+ys.length))) e ((es.length+ys.length) * s) [] hf2 hm2 (by simp) (fun j c hj=>by simp at hj)
 have hst4:=hst2.trans hst3 hm
 have hxl:xs.size=es.length * s:=by rw[hx2.1,Bz hes]
 have hyl:yv.size=ys.length * s:=by rw[hy2.1,Bz hys]
 refine⟨_,_,hrun,_,hst4,hm3,?_⟩
 have hsz:(es++ys).length=es.length+ys.length:=by simp
 rw[hone]
 suffices key:Rep (g1.newRow m1.rows.length w.drew.heap.size ((es.length+ys.length) * s)) (w.drew.alloc (.cells (xs++yv++Builtin.zeroCells zv.cells (nc - (es.length+ys.length))) e (0,0))) (.slice (.row m1.rows.length) (es++ys)) (.slice (some ⟨w.heap.size,0,none⟩) (es++ys).length nc) by
  rw[hsz] at key;exact key
 refine Rep.of_block h0 (fun x hx=>?_) (FF _ _) ⟨fun l hl=>?_,fun id hid=>?_⟩ ?_ (fun j c v hj hv=>?_) (fun c hc=>?_) (by rw[hsz];exact hnc2) ⟨by simp[Gh.newRow],fun b' hb'=>?_⟩
 ·rcases List.mem_append.1 hx with h | h
  ·exact hes x h
  ·exact hys x h
 ·exact absurd (hm1.box l _ hl) (Nat.lt_irrefl _)
 ·have e1:id=m1.rows.length:=by
   simp only[Gh.newRow] at hid
   split at hid
   ·assumption
   ·exact absurd (hm1.row id _ hid) (Nat.lt_irrefl _)
  subst e1
  simp[Gh.newRow]
 ·simp only[Array.size_append,hxl,hyl,hsz,Nat.add_mul];omega
 ·rw[HS] at hj
  have hfl:=Bz hes
  have hfy:=Bz hys
  by_cases hlt:j<es.length * s
  ·rw[List.getElem?_append_left (by omega)] at hj
   rw[Array.append_assoc,Array.getElem?_append_left (by omega)] at hv
   exact((hx2.2 j c v hj hv).step (Hf hm) Kq).step hm hst4
  ·rw[List.getElem?_append_right (by omega)] at hj
   have hjl:=(List.getElem?_eq_some_iff.1 hj).1
   rw[Array.append_assoc,Array.getElem?_append_right (by omega),Array.getElem?_append_left (by omega)] at hv
   refine((hy2.2 _ c v hj ?_).step (Hf hm) Kq).step hm hst4
   rw[← hv,hxl,hfl]
 ·rw[HS] at hc
  rcases List.mem_append.1 hc with h | h
  ·exact hx3 c h
  ·exact hy3 c h
 ·have:b'=w.heap.size:=by simpa [Gh.newRow] using hb'.symm
  subst this
  refine⟨rfl,rfl,_,e,FF _ _,?_⟩
  simp only[Array.size_append,hxl,hyl,Ne,hzs,← Nat.add_mul]
  congr 1
  omega
theorem Mw {t xt e e':TypeId} {s:Nat} (ty:TypeId) (he:Bn P t=some e) (he':Bn P xt=some e') (hs:Av P e=some s) (a a2:Option Addr) (n cap c2:Nat) (hc:n≤cap) :
  (Builtin.append_ #[t,xt] ty #[.slice a n cap,.slice a2 0 c2]).run P w=.ok (.slice a n cap) w:=by
 have hfc:(Builtin.firstCells s 0 (.slice a2 0 c2)).run P w=.ok #[] w:=by
  cases a2 <;> simp[Builtin.firstCells,loadCells,loadCellsFrom]
 cases a <;> simp[Builtin.append_,Builtin.lenOf,Au (DX he),Au (DX he'),Cb hs,hc,hfc,storeCells]
theorem Se {t xt:TypeId} {x y d:AV} {vx vy:Value} {m':Mem} (ty:TypeId) (h:IL P m t xt x y=some (d,m')) (hf:DR g m m') (hm:Aa g m w) (hx:Rep g w x vx) (hy:Rep g w y vy) :
  ∃ v w',(Builtin.append_ #[t,xt] ty #[vx,vy]).run P w=.ok v w'∧∃ g',As g m g' m' w w'∧Aa g' m' w'∧Rep g' w' d v:=by
 unfold IL at h
 split at h
 ·rename_i own es own2 ys e e' he he'
  split at h
  ·rename_i s by_ hs hb
   split at h
   ·rename_i hc
    obtain⟨h0,hb0,hz,hroom,hes,hys⟩:=hc
    split at h
    ·rename_i hnil
     injection h with h;injection h with h1 h2;subst h1 h2 hnil
     have hy':∃ a2 c2,vy=.slice a2 0 c2:=by
      rcases hy.slice_inv with⟨_,a0,cap0,rfl,_⟩|⟨b,o,cap,sz,rfl,_⟩
      ·exact⟨a0,cap0,rfl⟩
      ·exact⟨_,cap,rfl⟩
     obtain⟨a2,c2,rfl⟩:=hy'
     have hx':∃ a cap,vx=.slice a es.length cap∧es.length≤cap:=by
      rcases hx.slice_inv with⟨rfl,a0,cap0,rfl,_⟩|⟨b,o,cap,sz,rfl,_,_,_,_,hcap,_⟩
      ·exact⟨a0,cap0,rfl,Nat.zero_le _⟩
      ·exact⟨_,cap,rfl,hcap⟩
     obtain⟨a,cap,rfl,hcap⟩:=hx'
     exact⟨_,w,Mw ty he he' hs _ _ _ _ _ hcap,g,As.refl g m w,hm,hx⟩
    ·rename_i hne
     have hyl:0<ys.length:=List.length_pos_iff.2 hne
     split at h
     ·cases h
     ·injection h with h;injection h with h1 h2;subst h1 h2
      have hx':∃ a,vx=.slice a es.length es.length:=by
       rcases hx.slice_inv with⟨rfl,a0,cap0,rfl,hf0,_⟩|⟨b,o,cap,sz,rfl,_,_,_,_,_,hown⟩
       ·exact⟨a0,by rw[hf0 rfl];rfl⟩
       ·simp only[Ig] at hown;subst hown;exact⟨_,rfl⟩
      obtain⟨a,hvx⟩:=hx'
      obtain⟨v,w',h1,g',h2,h3,h4⟩:=UT (m1:=m) (g1:=g) ty he he' hs hb h0 hb0 hz hroom hes hys hx hy.forget hvx (by omega) hm hf (As.refl g m w) hm rfl
      exact⟨v,w',h1,g',h2,h3,h4⟩
     ·rename_i id
      split at h
      ·rename_i hlive
       obtain⟨hlive0,hne2⟩:=hlive
       obtain⟨ks0,hlive⟩:=AC5 hlive0
       injection h with h;injection h with h1 h2;subst h1 h2
       rcases hx.slice_inv with⟨hnil,_⟩|⟨b,o,cap,sz,rfl,hzz,hsz,himm,hcell,hcap,hown⟩
       ·exact absurd hnil hne2
       ·have hss:sz=s:=by
         obtain⟨e0,h0'⟩:=List.exists_mem_of_ne_nil es hne2
         rw[← hsz e0 h0',hes e0 h0']
        subst hss
        obtain⟨hgne,hown⟩:=hown
        obtain⟨b',hb',hhw⟩:=hm.rowLive id _ hlive hgne
        obtain⟨rfl,rfl,arr,t1,ha,hasz⟩:=hown b' hb'
        have hidl:id<m.rows.length:=(List.getElem?_eq_some_iff.1 hlive).1
        by_cases hroom2:es.length+ys.length≤cap
        ·-- in place
         obtain⟨a2,c2,yv,e2,hy1,hy2,hy3⟩:=hy.slice_cells (P:=P) hys
         subst e2
         have hyvl:yv.size=ys.length * sz:=by rw[hy2.1,Bz hys]
         have hfit:es.length * sz+ys.length * sz≤arr.size:=by rw[hasz,← Nat.add_mul];exact Nat.mul_le_mul_right _ hroom2
         obtain⟨arr',h8,h9,h10⟩:=Io (P:=P) (b:=b') (o:=es.length * sz) (t:=t1) yv.toList 0 arr w ha (by simp;omega) (ABA hy2 hy3)
         simp only[Nat.add_zero,Array.length_toList] at h10
         have hrun:(Builtin.append_ #[t,xt] ty #[.slice (some ⟨b',0,none⟩) es.length cap,.slice a2 ys.length c2]).run P w=.ok (.slice (some ⟨b',0,none⟩) (es.length+ys.length) cap) (Dl w b' (.cells arr' t1 (0,0))):=by
          simp[Builtin.append_,Builtin.lenOf,Au (DX he),Au (DX he'),Cb hs,hroom2,hy1,DV,h8]
         have hst:=Qv (n:=(es.length+ys.length) * sz) hf hb' hidl (by rw[hhw];exact Nat.mul_le_mul_right _ (by omega)) ha h9 (fun j hj=>by rw[h10 j,if_neg (by omega)]) hm
         have hm':=Zp (n:=(es.length+ys.length) * sz) (ks:=[]) hf hb' hidl (by rw[hhw];exact Nat.mul_le_mul_right _ (by omega)) ha h9 (fun j hj=>by rw[h10 j,if_neg (by omega)]) hm (by simp) (fun j c hj=>by simp at hj)
         refine⟨_,_,hrun,_,hst,hm',?_⟩
         have hl2:(es++ys).length=es.length+ys.length:=by simp
         suffices key:Rep ((g.killRow id).newRow m.rows.length b' ((es.length+ys.length) * sz)) (Dl w b' (.cells arr' t1 (0,0))) (.slice (.row m.rows.length) (es++ys)) (.slice (some ⟨b',0,none⟩) (es++ys).length cap) by
          rw[hl2] at key;exact key
         have hbl:=(Array.getElem?_eq_some_iff.1 ha).1
         refine Rep.of_block h0 (fun x hx=>?_) (EG w b' _ hbl) ⟨fun l hl=>(himm hne2).1 l hl,fun id' hid'=>?_⟩ ?_ (fun j c v hj hv=>?_) (fun c hc=>?_) (by rw[hl2];exact hroom2) ⟨by simp[Gh.newRow],fun b2 hb2=>?_⟩
         ·rcases List.mem_append.1 hx with h | h
          ·exact hes x h
          ·exact hys x h
         ·simp only[Gh.newRow] at hid' ⊢
          split at hid'
          ·rename_i e1;rw[if_pos e1,hl2];exact Nat.le_refl _
          ·rename_i e1
           obtain⟨h11,h12⟩:=HK hid'
           exact absurd (hm.rowInj _ _ _ h12 hb') h11
         ·rw[hl2,Nat.add_mul,h9];exact hfit
         ·rw[HS] at hj
          have hfl:=Bz hes
          have hfy:=Bz hys
          rw[h10 j] at hv
          by_cases hlt:j<es.length * sz
          ·rw[List.getElem?_append_left (by omega)] at hj
           rw[if_neg (by omega)] at hv
           have h1:j / sz<es.length:=(Nat.div_lt_iff_lt_mul h0).2 hlt
           have h2:j % sz<sz:=Nat.mod_lt _ h0
           have h3:=Mh hes (List.getElem?_eq_getElem h1) h2
           have h4:j / sz * sz+j % sz=j:=by rw[Nat.mul_comm];exact Nat.div_add_mod j sz
           rw[h4,hj] at h3
           obtain⟨v',h5,h6⟩:=(hcell _ _ (List.getElem?_eq_getElem h1)).2 _ c h3.symm
           rw[Nat.add_assoc,h4,Nat.zero_add] at h5
           have h7:w.cell? ⟨b',j,none⟩=arr[j]?:=by
            unfold World.cell?
            dsimp only
            rw[ha]
            simp
           rw[h7,hv] at h5
           injection h5 with h5;subst h5
           exact h6.step hm hst
          ·rw[List.getElem?_append_right (by omega)] at hj
           have hjl:=(List.getElem?_eq_some_iff.1 hj).1
           rw[if_pos (by omega)] at hv
           refine(hy2.2 _ c v hj ?_).step hm hst
           rw[hfl];simpa using hv
         ·rw[HS] at hc
          rcases List.mem_append.1 hc with h | h
          ·obtain⟨e,he1,he2⟩:=List.mem_flatMap.1 h
           obtain⟨i,hi',hie⟩:=List.getElem_of_mem he1
           exact(hcell i e (by rw[← hie];exact List.getElem?_eq_getElem hi')).1 c he2
          ·exact hy3 c h
         ·have:b2=b':=by simpa [Gh.newRow] using hb2.symm
          subst this
          exact⟨rfl,rfl,arr',t1,EG w b2 _ hbl,h9.trans hasz⟩
        ·-- a new row
         have hk:=QH id hidl hm
         have hmk:=Zb id hidl hm
         obtain⟨v,w',h1,g',h2,h3,h4⟩:=UT (m1:=m.retire id) (g1:=g.killRow id) ty he he' hs hb h0 hb0 hz hroom hes hys hx hy.forget rfl (by omega) hm hf hk hmk (by simp[Mem.retire])
         exact⟨v,w',h1,g',h2,h3,h4⟩
      ·cases h
   ·cases h
  ·cases h
 ·cases h
theorem Ln {s:Nat} {x:AV} {v:Value} {xc:List AV} {nx:Nat} (h:FU m s x=some (xc,nx)) (hm:Aa g m w) (hx:Rep g w x v):∃ a cap vals,v=.slice a nx cap∧nx≤cap∧(Builtin.firstCells s nx v).run P w=.ok vals w∧Bi g w xc vals∧(∀ c∈xc,c.one=true)∧xc.length=nx * s:=by
 unfold FU at h
 split at h
 ·rename_i own es
  split at h
  ·rename_i hs
   injection h with h;injection h with h1 h2;subst h1 h2
   obtain⟨a,cap,vals,rfl,h1,h2,h3⟩:=hx.slice_cells (P:=P) hs
   refine⟨a,cap,vals,rfl,?_,h1,h2,h3,Bz hs⟩
   rcases hx.slice_inv with⟨rfl,a0,cap0,h4,_⟩|⟨b,o,cap',sz,h4,_,_,_,_,h5,_⟩
   ·simp
   ·injection h4 with h4 h5' h6;subst h6;exact h5
  ·cases h
 ·rename_i id off len sz k
  split at h
  ·rename_i n cs hr
   split at h
   ·rename_i hc
    injection h with h;injection h with h1 h2;subst h1 h2
    obtain⟨rfl,hl⟩:=hc
    obtain⟨a,cap,rfl,hspot,hz,hcap,hf,hg,ha⟩:=hx.vec_inv
    obtain⟨b,hb,_,arr,ty,harr,hal,hone,hrep,hcell⟩:=hm.rowAt hr hg
    rw[(ha b hb).1]
    let vals:Nat→Value:=fun j=>(w.cell? ⟨b,off+j,none⟩).getD undef
    have hv:∀ j c,(cs.drop off)[j]?=some c→w.cell? ⟨b,off+j,none⟩=some (vals j)∧Rep g w c (vals j):=by
     intro j c hj
     rw[List.getElem?_drop] at hj
     obtain⟨v,h5,h6⟩:=hcell.2 (off+j) c hj
     rw[Nat.zero_add] at h5
     simp only[vals,h5,Option.getD_some]
     exact⟨trivial,h6⟩
    refine⟨_,cap,((List.range (len * sz)).map vals).toArray,rfl,hcap,?_,⟨by simp;omega,fun j c v hc hv'=>?_⟩,fun c hc=>hone c (List.mem_of_mem_drop (List.mem_of_mem_take hc)),by simp;omega⟩
    ·refine LQ vals (fun j hj=>?_)
     exact(hv j _ (List.getElem?_eq_getElem (by simp;omega))).1
    ·have hj:j<len * sz:=by
      have:=(List.getElem?_eq_some_iff.1 hc).1
      simp at this;omega
     rw[List.getElem?_take_of_lt hj] at hc
     simp[List.getElem?_range hj] at hv'
     subst hv'
     exact(hv j c hc).2
   ·cases h
  ·cases h
 ·cases h
theorem Kd {t xt e e':TypeId} {s by_ nx ny cap c2:Nat} {a a2:Option Addr} {xs yv:Array Value} (ty:TypeId) (he:Bn P t=some e) (he':Bn P xt=some e') (hs:Av P e=some s) (hb:ER P e=some by_)
  (hb0:0<by_) (hz:Dh P e=some s) (hroom:(nx+ny) * by_≤Fd) (hcap:cap<nx+ny)
  (hx:(Builtin.firstCells s nx (.slice a nx cap)).run P w.drew=.ok xs w.drew) (hy:(Builtin.firstCells s ny (.slice a2 ny c2)).run P w.drew=.ok yv w.drew) :
  ∃ nc zs,nx+ny≤nc∧(Builtin.append_ #[t,xt] ty #[.slice a nx cap,.slice a2 ny c2]).run P w=.ok (.slice (some ⟨w.heap.size,0,none⟩) (nx+ny) nc) (w.drew.alloc (.cells (xs++yv++zs) e (0,0)))∧zs.size=(nc - (nx+ny)) * s:=by
 obtain⟨inf,hi1,hi2⟩:=Sb hb
 obtain⟨zv,hzv,hzs⟩:∃ zv,(P.info? e).bind (·.zero)=some zv∧zv.cells.size=s:=by
  unfold Dh at hz
  cases h:(P.info? e).bind (·.zero) with
  | none=>rw[h] at hz;cases hz
  | some zv=>rw[h] at hz;injection hz with hz;exact⟨zv,rfl,hz⟩
 have hneed:¬ (nx+ny≤cap):=by omega
 have hgrow:¬ (2 ^ 48<Builtin.nextslicecap (nx+ny) cap * inf.bytes):=by
  have:=growslice_fits (need:=nx+ny) (old:=cap) (bytes:=inf.bytes) hcap (by rw[hi2];exact hroom)
  omega
 have hib:inf.bytes≠0:=by omega
 obtain⟨nc,hnc1,hnc2⟩:∃ nc,nc=(Question.appendCap (nx+ny) cap e).cut (w.tape w.drawn (.appendCap (nx+ny) cap e))∧nx+ny≤nc:=⟨_,rfl,by simp[Question.cut]⟩
 refine⟨nc,Builtin.zeroCells zv.cells (nc - (nx+ny)),hnc2,?_,by rw[Ne,hzs]⟩
 simp[-run_choose,Builtin.append_,Builtin.lenOf,Au (DX he),Au (DX he'),Cb hs,hi1,hneed,hgrow,hib,hx,hy,Fv hzv,newRow,Question.forced,← hnc1]
theorem AAi {xc yc:List AV} {xs yv zs:Array Value} (h1:Bi g w xc xs) (h2:Bi g w yc yv):∀ (j:Nat) (c:AV) (v:Value),(xc++yc)[j]?=some c→(xs++yv++zs)[j]?=some v→Rep g w c v:=by
 intro j c v hj hv
 have l1:=h1.1
 have l2:=h2.1
 by_cases hlt:j<xc.length
 ·rw[List.getElem?_append_left hlt] at hj
  rw[Array.append_assoc,Array.getElem?_append_left (by omega)] at hv
  exact h1.2 j c v hj hv
 ·rw[List.getElem?_append_right (by omega)] at hj
  have hjl:=(List.getElem?_eq_some_iff.1 hj).1
  rw[Array.append_assoc,Array.getElem?_append_right (by omega),Array.getElem?_append_left (by omega)] at hv
  exact h2.2 _ c v hj (by rw[← hv,l1])
theorem AC6 {b:Nat} {o:Obj} (h:w.heap[b]?=some o):Dl w b o=w:=by
 have:w.heap.setIfInBounds b o=w.heap:=by
  apply Array.ext_getElem?
  intro j
  rw[Array.getElem?_setIfInBounds]
  split
  ·rename_i e;subst e;split
   ·exact h.symm
   ·rename_i h2;rw[Array.getElem?_eq_none (by omega)] at h;cases h
  ·rfl
 unfold Dl;rw[this]
theorem AGi {x:AV} {v:Value} (hm:Aa g m w) (hx:Rep g w x v):As g m g (Kv m x) w w∧Aa g (Kv m x) w:=by
 unfold Kv
 split
 ·rename_i id off len sz
  split
  ·rename_i cs hr
   obtain⟨a,cap,rfl,_,_,_,_,hg,_⟩:=hx.vec_inv
   obtain⟨b,hb,hhw,arr,t,ha,hal,hone,hrep,hcell⟩:=hm.rowAt hr hg
   have hl:id<m.rows.length:=(List.getElem?_eq_some_iff.1 hr).1
   have e:=AC6 ha
   have h1:=Kt (n:=0) (ks:=cs.take (off+len * sz)) hb hl ha rfl (fun j _=>rfl) hm
   have h2:=On (ks:=cs.take (off+len * sz)) hb hr ha rfl (fun j _=>rfl) hm (by rw[List.length_take];omega) (fun j c hj=>by
    have hj':cs[j]?=some c:=by
     rw[List.getElem?_take] at hj
     split at hj
     ·exact hj
     ·cases hj
    exact⟨hone c (List.mem_of_getElem? hj'),fun v hv=>hrep j c v hj' hv⟩)
   rw[e] at h1 h2
   exact⟨h1,h2⟩
  ·exact⟨As.refl g m w,hm⟩
 ·exact⟨As.refl g m w,hm⟩
theorem WX {m1:Mem} {g1:Gh} {e s nx ny nc:Nat} {xc yc:List AV} {xs yv zs:Array Value} (h0:0<s) (hst:As g m g1 m1 w w) (hm1:Aa g1 m1 w) (hm:Aa g m w) (hf:DR g m (m1.pushRow 0 (xc++yc))) (hx:Bi g w xc xs) (hy:Bi g w yc yv) (hxo:∀ c∈xc,c.one=true) (hyo:∀ c∈yc,c.one=true)
  (hxl:xc.length=nx * s) (hyl:yc.length=ny * s) (hzs:zs.size=(nc - (nx+ny)) * s) (hnc:nx+ny≤nc) (hone:m.rows.length=m1.rows.length) :
  ∃ g',As g m g' (m1.pushRow 0 (xc++yc)) w (w.drew.alloc (.cells (xs++yv++zs) e (0,0)))∧Aa g' (m1.pushRow 0 (xc++yc)) (w.drew.alloc (.cells (xs++yv++zs) e (0,0))) ∧
   Rep g' (w.drew.alloc (.cells (xs++yv++zs) e (0,0))) (.vec m.rows.length 0 (nx+ny) s .opn) (.slice (some ⟨w.heap.size,0,none⟩) (nx+ny) nc):=by
 have hst2:As g m g1 m1 w w.drew:=hst.trans HZ hm
 have hm2:Aa g1 m1 w.drew:=Hf hm1
 have hf2:DR g1 m1 (m1.pushRow 0 (xc++yc)):=hf.right hst
 have hst3:=Ko (.cells (xs++yv++zs) e (0,0)) 0 (xc++yc) hf2 hm2
 have hx1:=hx.1
 have hy1:=hy.1
 have hm3:=Oq (xs++yv++zs) e 0 (xc++yc) hf2 hm2 (by simp;omega) (fun j c hj=>⟨by
  rcases List.mem_append.1 (List.mem_of_getElem? hj) with h | h
  ·exact hxo c h
  ·exact hyo c h,fun v hv=>(AAi hx hy j c v hj hv).step hm hst2⟩)
 refine⟨_,hst2.trans hst3 hm,hm3,.vec _ _ _ _ _ _ _ rfl h0 hnc (fun h=>by cases h) (by rw[hone];simp[Gh.newRow]) (fun b hb=>?_)⟩
 have:b=w.heap.size:=by rw[hone] at hb;simpa [Gh.newRow] using hb.symm
 subst this
 have hsz:(xs++yv++zs).size=nc * s:=by
  simp only[Array.size_append,hx1,hy1,hxl,hyl,hzs,← Nat.add_mul]
  congr 1;omega
 exact⟨rfl,_,e,FF _ _,by rw[hsz];simp,fun _=>by rw[hsz];simp⟩
theorem SS {t xt:TypeId} {x y d:AV} {vx vy:Value} {m':Mem} (ty:TypeId) (h:GX P m t xt x y=some (d,m')) (hf:DR g m m') (hm:Aa g m w) (hx:Rep g w x vx) (hy:Rep g w y vy) :
  ∃ v w',(Builtin.append_ #[t,xt] ty #[vx,vy]).run P w=.ok v w'∧∃ g',As g m g' m' w w'∧Aa g' m' w'∧Rep g' w' d v:=by
 unfold GX at h
 split at h
 ·rename_i e e' he he'
  split at h
  ·rename_i s by_ hs hb
   split at h
   ·rename_i xc nx yc ny hxc hyc
    split at h
    ·rename_i hc
     obtain⟨h0,hb0,hz,hroom⟩:=hc
     obtain⟨a,cap,xs,rfl,hcap,hx1,hx2,hx3,hx4⟩:=Ln (P:=P) hxc hm hx
     obtain⟨a2,c2,yv,rfl,hcap2,hy1,hy2,hy3,hy4⟩:=Ln (P:=P) hyc hm hy
     obtain⟨a',cap',xs',e1,_,hx1',hx2',_⟩:=Ln (P:=P) hxc (Hf hm) (hx.step hm HZ)
     injection e1 with e1 e2 e3;subst e1 e3
     obtain⟨a2',c2',yv',e1,_,hy1',hy2',_⟩:=Ln (P:=P) hyc (Hf hm) (hy.step hm HZ)
     injection e1 with e1 e2 e3;subst e1 e3
     have hx2'':Bi g w xc xs':=hx2'.step (Hf hm) Kq
     have hy2'':Bi g w yc yv':=hy2'.step (Hf hm) Kq
     split at h
     ·rename_i hny
      injection h with h;injection h with h1 h2;subst h1 h2 hny
      obtain⟨k1,k2⟩:=AGi hm hx
      exact⟨_,w,Mw ty he he' hs _ _ _ _ _ hcap,g,k1,k2,hx⟩
     ·rename_i hny
      unfold Yp at h
      split at h
      ·rename_i own es
       injection h with h;injection h with h1 h2;subst h1 h2
       have hce:cap=nx:=by
        simp only[FU] at hxc
        split at hxc
        ·injection hxc with hxc;injection hxc with e1 e2
         rcases hx.slice_inv with⟨rfl,a0,cap0,h4,hf0,_⟩|⟨b,o,cap',sz,h4,_,_,_,_,h5,h6⟩
         ·injection h4 with h4 h5 h6;have:=hf0 rfl;omega
         ·injection h4 with h4 h5' h7;simp only[Ig] at h6;omega
        ·cases hxc
       obtain⟨nc,zs,hnc,hrun,hzs⟩:=Kd ty he he' hs hb hb0 hz hroom (by omega) hx1' hy1'
       obtain⟨g',h1,h2,h3⟩:=WX (e:=e) h0 (As.refl g m w) hm hm hf hx2'' hy2'' hx3 hy3 hx4 hy4 hzs hnc rfl
       exact⟨_,_,hrun,g',h1,h2,h3⟩
      ·rename_i id off len sz
       injection h with h;injection h with h1 h2;subst h1 h2
       have hce:cap=nx:=by
        obtain⟨a0,cap0,e1,_,_,_,h5,_⟩:=hx.vec_inv
        injection e1 with e1 e2 e3
        have:=h5 rfl
        omega
       obtain⟨nc,zs,hnc,hrun,hzs⟩:=Kd ty he he' hs hb hb0 hz hroom (by omega) hx1' hy1'
       obtain⟨g',h1,h2,h3⟩:=WX (e:=e) h0 (As.refl g m w) hm hm hf hx2'' hy2'' hx3 hy3 hx4 hy4 hzs hnc rfl
       exact⟨_,_,hrun,g',h1,h2,h3⟩
      ·rename_i id off len sz
       split at h
       ·rename_i cs hr
        obtain⟨a0,cap0,e1,hspot,hsz,_,_,hg,hadr⟩:=hx.vec_inv
        injection e1 with e1 e2 e3
        subst e1 e3
        have hlen:len=nx∧sz=s∧xc=(cs.drop off).take (nx * s)∧off+nx * s≤cs.length:=by
         simp only[FU,hr] at hxc
         split at hxc
         ·rename_i hc
          injection hxc with hxc;injection hxc with e1 e2
          obtain⟨rfl,hc⟩:=hc
          subst e2
          exact⟨rfl,rfl,e1.symm,hc⟩
         ·cases hxc
        obtain⟨rfl,rfl,hxcs,hfit⟩:=hlen
        obtain⟨b,hb',hhw,arr,t1,ha,hal,hone,hrep,hcell⟩:=hm.rowAt hr hg
        obtain⟨rfl,arr0,t0,ha0,hend,hend2⟩:=hadr b hb'
        rw[ha] at ha0;injection ha0 with ha0;injection ha0 with h1 h2;subst h1 h2
        have hasz:=hend2 rfl
        have hidl:id<m.rows.length:=(List.getElem?_eq_some_iff.1 hr).1
        have hbl:=(Array.getElem?_eq_some_iff.1 ha).1
        have hyl1:=hy2.1
        -- in place: the run
        have inplace:len+ny≤cap→∃ arr',(Builtin.append_ #[t,xt] ty #[.slice (some ⟨b,off,none⟩) len cap,.slice a2 ny c2]).run P w=.ok (.slice (some ⟨b,off,none⟩) (len+ny) cap) (Dl w b (.cells arr' t1 (0,0)))∧arr'.size=arr.size ∧
          ∀ j,arr'[j]?=if off+len * sz≤j∧j<off+len * sz+ny * sz then yv[j - (off+len * sz)]? else arr[j]?:=by
         intro hroom2
         have hfit2:off+len * sz+ny * sz≤arr.size:=by
          have:(len+ny) * sz≤cap * sz:=Nat.mul_le_mul_right _ hroom2
          rw[Nat.add_mul] at this;omega
         obtain⟨arr',h8,h9,h10⟩:=Io (P:=P) (b:=b) (o:=off+len * sz) (t:=t1) yv.toList 0 arr w ha (by simp;omega) (ABA hy2 hy3)
         simp only[Nat.add_zero,Array.length_toList] at h10
         refine⟨arr',?_,h9,fun j=>?_⟩
         ·simp[Builtin.append_,Builtin.lenOf,Au (DX he),Au (DX he'),Cb hs,hroom2,hy1,DV,h8]
         ·rw[h10 j,hyl1,hy4];simp
        split at h
        ·rename_i hin
         injection h with h;injection h with h1 h2;subst h1 h2
         have hroom2:len+ny≤cap:=by
          have:(len+ny) * sz≤cap * sz:=by omega
          exact Nat.le_of_mul_le_mul_right this h0
         obtain⟨arr',hrun,h9,h10⟩:=inplace hroom2
         have hsl:off+len * sz+yc.length≤cs.length:=by rw[hy4];rw[Nat.add_mul] at hin;omega
         have hst:=Kt (n:=0) (ks:=(Ca cs (off+len * sz) yc).take (off+(len+ny) * sz)) hb' hidl ha h9 (fun j hj=>by omega) hm
         have hm':=On (ks:=(Ca cs (off+len * sz) yc).take (off+(len+ny) * sz)) hb' hr ha h9 (fun j hj=>by omega) hm (by rw[List.length_take,Hm hsl];omega) (fun j c hj=>by
          have hj:(Ca cs (off+len * sz) yc)[j]?=some c:=by
           rw[List.getElem?_take] at hj
           split at hj
           ·exact hj
           ·cases hj
          exact⟨LX hone hy3 c (List.mem_of_getElem? hj),fun v hv=>by
          rw[LY hsl] at hj
          rw[h10 j] at hv
          rw[hy4] at hj
          split at hj
          ·rename_i e1
           rw[if_pos e1] at hv
           exact hy2.2 _ c v hj hv
          ·rename_i e1
           rw[if_neg e1] at hv
           exact hrep j c v hj hv⟩)
         refine⟨_,_,hrun,g,hst,hm',.vec _ _ _ _ _ _ _ rfl h0 hroom2 (fun h=>by cases h) hg (fun b2 hb2=>?_)⟩
         rw[hb'] at hb2;injection hb2 with hb2;injection hb2 with hb2;subst hb2
         exact⟨rfl,arr',t1,EG w b _ hbl,by rw[h9];exact hend,fun _=>by rw[h9];exact hasz⟩
        ·rename_i hout
         split at h
         ·rename_i hoff
          subst hoff
          injection h with h;injection h with h1 h2;subst h1 h2
          rw[Nat.zero_add] at *
          by_cases hroom2:len+ny≤cap
          ·obtain⟨arr',hrun,h9,h10⟩:=inplace hroom2
           have hks:∀ (j:Nat) (c:AV),(xc++yc)[j]?=some c→c.one=true∧∀ v,arr'[j]?=some v→Rep g w c v:=by
            intro j c hj
            refine⟨?_,fun v hv=>?_⟩
            ·rcases List.mem_append.1 (List.mem_of_getElem? hj) with h | h
             ·exact hx3 c h
             ·exact hy3 c h
            ·rw[h10 j] at hv
             by_cases hlt:j<len * sz
             ·rw[List.getElem?_append_left (by omega)] at hj
              rw[if_neg (by omega)] at hv
              rw[hxcs,List.getElem?_take_of_lt hlt,List.drop_zero] at hj
              exact hrep j c v hj hv
             ·rw[List.getElem?_append_right (by omega),hx4] at hj
              have hjl:=(List.getElem?_eq_some_iff.1 hj).1
              rw[if_pos (by omega)] at hv
              exact hy2.2 _ c v hj hv
           have hkl:(xc++yc).length≤arr'.size:=by
            rw[List.length_append,hx4,hy4,← Nat.add_mul,h9,← hasz]
            exact Nat.mul_le_mul_right _ hroom2
           have hst:=Qv (n:=0) (ks:=xc++yc) hf hb' hidl (by omega) ha h9 (fun j hj=>by omega) hm
           have hm':=Zp (n:=0) (ks:=xc++yc) hf hb' hidl (by omega) ha h9 (fun j hj=>by omega) hm hkl hks
           refine⟨_,_,hrun,_,hst,hm',.vec _ _ _ _ _ _ _ rfl h0 hroom2 (fun h=>by cases h) (by simp[Gh.newRow]) (fun b2 hb2=>?_)⟩
           have:b2=b:=by simpa [Gh.newRow] using hb2.symm
           subst this
           exact⟨rfl,arr',t1,EG w b2 _ hbl,by rw[Nat.zero_add,h9];omega,fun _=>by rw[Nat.zero_add,h9];exact hasz⟩
          ·have hk:=QH id hidl hm
           have hmk:=Zb id hidl hm
           obtain⟨nc,zs,hnc,hrun,hzs⟩:=Kd ty he he' hs hb hb0 hz hroom (by omega) hx1' hy1'
           obtain⟨g',h1,h2,h3⟩:=WX (e:=e) h0 hk hmk hm hf hx2'' hy2'' hx3 hy3 hx4 hy4 hzs hnc (by simp[Mem.retire])
           exact⟨_,_,hrun,g',h1,h2,h3⟩
         ·cases h
       ·cases h
      ·cases h
    ·cases h
   ·cases h
  ·cases h
 ·cases h
theorem ABo {t xt:TypeId} {x y d:AV} {vx vy:Value} {m':Mem} (ty:TypeId) (h:EK P m t xt x y=some (d,m')) (hf:DR g m m') (hm:Aa g m w) (hx:Rep g w x vx) (hy:Rep g w y vy) :
  ∃ v w',(Builtin.append_ #[t,xt] ty #[vx,vy]).run P w=.ok v w'∧∃ g',As g m g' m' w w'∧Aa g' m' w'∧Rep g' w' d v:=by
 unfold EK at h
 split at h
 ·exact SS ty h hf hm hx hy
 ·split at h
  ·split at h
   ·exact SS ty h hf hm hx hy
   ·exact Se ty h hf hm hx hy
  ·cases h
 ·exact Se ty h hf hm hx hy
end
end
section
theorem AEJ:∀ (c:List Value) (n off:Nat) (cells:Array Value),
  ((c.zipIdx n).foldl (fun cs (p:Value × Nat)=>cs.setIfInBounds (off+p.2) p.1) cells).size=cells.size ∧
  ∀ k,((c.zipIdx n).foldl (fun cs (p:Value × Nat)=>cs.setIfInBounds (off+p.2) p.1) cells)[k]?=if off+n≤k∧k<off+n+c.length∧k<cells.size then c[k - (off+n)]? else cells[k]?:=by
 intro c
 induction c with
 | nil=>intro n off cells;simp;intro k h1 h2;omega
 | cons x c ih =>
  intro n off cells
  simp only[List.zipIdx_cons,List.foldl_cons]
  obtain⟨h1,h2⟩:=ih (n+1) off (cells.setIfInBounds (off+n) x)
  refine⟨by rw[h1];simp,fun k=>?_⟩
  rw[h2 k]
  simp only[Array.size_setIfInBounds,Array.getElem?_setIfInBounds,List.length_cons]
  by_cases e1:off+n=k
  ·subst e1
   by_cases e2:off+n<cells.size
   ·rw[if_neg (by omega),if_pos rfl,if_pos e2,if_pos (by omega)];simp
   ·rw[if_neg (by omega),if_pos rfl,if_neg e2,if_neg (by omega),Array.getElem?_eq_none (by omega)]
  ·by_cases e2:off+(n+1)≤k∧k<off+(n+1)+c.length∧k<cells.size
   ·rw[if_pos e2,if_pos (by omega)]
    have:k - (off+n)=(k - (off+(n+1)))+1:=by omega
    rw[this,List.getElem?_cons_succ]
   ·rw[if_neg e2,if_neg e1,if_neg (by omega)]
section
variable {g:Gh} {m:Mem} {w:World} {P:Program}
def Sv (g:Gh) (w:World):List (Nat × AV)→List (Nat × Value)→Prop
 | [],[]=>True
 | (i,a) :: l,(k,v) :: l'=>i=k∧Rep g w a v∧Sv g w l l'
 | _,_=>False
theorem ACg {a:AV} {v:Value} (h:Rep g w a v):Rep g w a.strip1 v:=by
 cases a with
 | slice own es=>exact h.forget
 | _=>exact h
theorem Uz (a:AV):a.strip1.one=a.one:=by cases a <;> rfl
theorem Bi.strip1 {as_:List AV} {vs:Array Value} (h:Bi g w as_ vs):Bi g w (as_.map AV.strip1) vs :=
 ⟨by simp[h.1],fun j a v ha hv=>by
  rw[List.getElem?_map] at ha
  cases hx:as_[j]? with
  | none=>rw[hx] at ha;cases ha
  | some x=>rw[hx] at ha;injection ha with ha;subst ha;exact ACg (h.2 j x v hx hv)⟩
theorem Jw {a:AV} {v:Value} (h:Rep g w a v):Rep g w a.strip v:=by
 cases a with
 | slice own es=>exact h.forget
 | agg cs =>
  obtain⟨vs,rfl,hr,ho⟩:=h.agg_inv
  have:=hr.strip1
  refine .agg _ _ this.1 (fun c hc=>?_) this.2
  obtain⟨x,hx,rfl⟩:=List.mem_map.1 hc
  rw[Uz];exact ho x hx
 | _=>exact h
theorem Ks {a:AV}:a.strip.cells=a.cells.map AV.strip1:=by cases a <;> rfl
theorem VP {places:Nat→Option (Nat × Nat)}:∀ {aps:List (Nat × AV)} {vps:List (Nat × Value)} {cs cs':List AV} {cells:Array Value},Sv g w aps vps→Bi g w cs cells→(∀ c∈cs,c.one=true)→Gg places cs aps=some cs' →
  ∃ cells',Instr.fill places cells vps=some cells'∧Bi g w cs' cells'∧∀ c∈cs',c.one=true:=by
 intro aps
 induction aps with
 | nil =>
  intro vps cs cs' cells hp hr ho h
  cases vps with
  | nil=>simp only[Gg] at h;injection h with h;subst h;exact⟨cells,rfl,hr,ho⟩
  | cons=>exact hp.elim
 | cons p aps ih =>
  intro vps cs cs' cells hp hr ho h
  obtain⟨i,a⟩:=p
  cases vps with
  | nil=>exact hp.elim
  | cons q vps =>
   obtain⟨k,v⟩:=q
   obtain⟨rfl,hav,hp⟩:=hp
   simp only[Gg] at h
   cases hpl:places i with
   | none=>rw[hpl] at h;cases h
   | some os =>
    obtain⟨off,size⟩:=os
    rw[hpl] at h
    dsimp only at h
    split at h
    ·rename_i hc
     obtain⟨c1,c2,c3⟩:=hc
     obtain⟨h1,h2⟩:=hav.cells (Kk c3)
     have h3:=h1.strip1
     obtain⟨k1,k2⟩:=AEJ v.cells.toList 0 off cells
     have hlen:(a.cells.map AV.strip1).length=a.cells.length:=by simp
     have hr':Bi g w (Ca cs off (a.cells.map AV.strip1)) ((v.cells.toList.zipIdx 0).foldl (fun cs (p:Value × Nat)=>cs.setIfInBounds (off+p.2) p.1) cells):=by
      refine⟨by rw[k1,Hm (by omega),hr.1],fun j c x hc hx=>?_⟩
      rw[LY (by omega)] at hc
      rw[k2 j] at hx
      have hsz:=hr.1
      have hvz:=h1.1
      simp only[Nat.add_zero,Array.length_toList] at hx
      by_cases e:off≤j∧j<off+(a.cells.map AV.strip1).length
      ·rw[if_pos e] at hc
       rw[if_pos (by omega)] at hx
       exact h3.2 (j - off) c x hc (by simpa using hx)
      ·rw[if_neg e] at hc
       rw[if_neg (by omega)] at hx
       exact hr.2 j c x hc hx
     obtain⟨cells',h4,h5⟩:=ih hp hr' (LX ho (fun c hc=>by
      obtain⟨y,hy,rfl⟩:=List.mem_map.1 hc
      rw[Uz];exact h2 y hy)) h
     refine⟨cells',?_,h5⟩
     have hv1:=h1.1
     have hr1:=hr.1
     have e1:(v.cells.zipIdx.foldl (fun cs (x:Value × Nat)=>cs.setIfInBounds (off+x.2) x.1) cells)=((v.cells.toList.zipIdx 0).foldl (fun cs (p:Value × Nat)=>cs.setIfInBounds (off+p.2) p.1) cells):=by
      rw[← Array.foldl_toList,Array.toList_zipIdx]
     have hcond:¬ ((v.cells.size≠size) || (off+v.cells.size > cells.size))=true:=by
      simp;omega
     simp only[Instr.fill,hpl]
     rw[if_neg hcond]
     rw[show (v.cells.zipIdx.foldl (fun cs (c,j)=>cs.setIfInBounds (off+j) c) cells)=_ from e1]
     exact h4
    ·cases h
theorem RU {t:TypeId} {cs:List AV} (h:DE P t=some cs):∃ zv,(P.info? t).bind (·.zero)=some zv∧(∀ g w,Bi g w cs zv.cells)∧∀ c∈cs,c.one=true:=by
 unfold DE at h
 cases hz:(P.info? t).bind (·.zero) with
 | none=>rw[hz] at h;cases h
 | some zv =>
  rw[hz] at h
  simp only[Option.bind_some] at h
  cases hc:Hi zv.cells.toList with
  | none=>rw[hc] at h;cases h
  | some as_ =>
   rw[hc] at h
   simp only[Option.bind_some] at h
   split at h
   ·rename_i hall
    injection h with h;subst h
    refine⟨zv,rfl,fun g w=>?_,fun c hc'=>List.all_eq_true.1 hall c hc'⟩
    obtain⟨h1,h2⟩:=QY (g:=g) (w:=w) hc
    exact⟨by simpa using h1.symm,fun j a v ha hv=>(h2 j a v ha (by simpa using hv)).1⟩
   ·cases h
theorem AAU {fs:List Field} {ps:List (Nat × Nat)} (h:fs.mapM (fun f=>(Av P f.type).map fun n=>(f.offset,n))=some ps) (w:World) :
  (fs.mapM (fun f=>do pure (f.offset,← sizeOf f.type):Field→Sem (Nat × Nat))).run P w=.ok ps w:=by
 induction fs generalizing ps with
 | nil=>simp at h;subst h;simp
 | cons f fs ih =>
  rw[List.mapM_cons] at h
  cases hf:Av P f.type with
  | none=>rw[hf] at h;cases h
  | some n =>
   cases hr:fs.mapM (fun f=>(Av P f.type).map fun n=>(f.offset,n)) with
   | none=>rw[hf,hr] at h;cases h
   | some ps' =>
    rw[hf,hr] at h
    injection h with h;subst h
    have:=ih hr
    rw[List.mapM_cons]
    simp only[Sem.run_bind,Cb hf,Result.andThen_ok,Sem.run_pure]
    rw[this]
    rfl
theorem AEm {t:TypeId} {aps:List (Nat × AV)} {vps:List (Nat × Value)} {d:AV} (h:HO P t aps=some d) (hp:Sv g w aps vps):∃ v,(Instr.build t vps.toArray).run P w=.ok v w∧Rep g w d v:=by
 unfold HO at h
 split at h
 ·rename_i cs ps hz hpl
  obtain⟨zv,hzv,hr,ho⟩:=RU hz
  cases hf:Gg (ps[·]?) cs aps with
  | none=>rw[hf] at h;cases h
  | some cs' =>
   rw[hf] at h;injection h with h;subst h
   obtain⟨cells',h1,h2,h3⟩:=VP hp (hr g w) ho hf
   unfold EL at hpl
   split at hpl
   ·rename_i fs hu
    refine⟨.agg cells',?_,.agg _ _ h2.1 h3 h2.2⟩
    have hpls:=AAU hpl w
    have hm2:(fs.mapM (fun f=>do pure (f.offset,← sizeOf f.type):Field→Sem (Nat × Nat))).run P w=.ok ps.toArray w:=by
     rw[Array.mapM_eq_mapM_toList]
     simp only[Sem.run_map,hpls,Result.andThen_ok]
    simp only[Instr.build,Sem.run_bind,Fv hzv,Result.andThen_ok,Au hu,hm2]
    simp[h1]
   ·cases hpl
 ·rename_i cs len e hz hpl hat
  split at h
  ·rename_i s hs
   obtain⟨zv,hzv,hr,ho⟩:=RU hz
   cases hf:Gg (fun i=>some (i * s,s)) cs aps with
   | none=>rw[hf] at h;cases h
   | some cs' =>
    rw[hf] at h;injection h with h;subst h
    obtain⟨cells',h1,h2,h3⟩:=VP hp (hr g w) ho hf
    refine⟨.agg cells',?_,.agg _ _ h2.1 h3 h2.2⟩
    simp[Instr.build,Fv hzv,Au (Jt hat),Cb hs,h1]
  ·cases h
 ·cases h
theorem ADx {s:Nat}:∀ (At:List (Nat × AV)) (k:Nat) (A B:List AV),A.length=k * s→B.length=At.length * s→At.map (·.1)=List.range' k At.length→(∀ p∈At,p.2.cells.length=s∧Bj p.2=true) →
  Gg (fun i=>some (i * s,s)) (A++B) At=some (A++flatC (At.map fun p=>p.2.strip)):=by
 intro At
 induction At with
 | nil=>intro k A B hA hB h1 h2;simp at hB;subst hB;simp[Gg,flatC]
 | cons p At ih =>
  intro k A B hA hB h1 h2
  obtain⟨i,a⟩:=p
  simp only[List.map_cons,List.length_cons,List.range'_succ] at h1 hB
  injection h1 with h1 h1'
  subst h1
  obtain⟨h3,h4⟩:=h2 (i,a) (List.mem_cons_self ..)
  dsimp only at h3 h4
  rw[Nat.succ_mul] at hB
  have hcond:a.cells.length=s∧i * s+s≤(A++B).length∧Bj a=true:=⟨h3,by simp;omega,h4⟩
  simp only[Gg]
  rw[if_pos hcond]
  have hsp:Ca (A++B) (i * s) (a.cells.map AV.strip1)=(A++a.strip.cells)++B.drop s:=by
   simp only[Ca,List.length_map,h3]
   rw[← hA,List.take_left,Ks,show A.length+s=A.length+s from rfl,List.drop_append,List.drop_eq_nil_of_le (by omega),List.nil_append,show A.length+s - A.length=s from by omega]
  rw[hsp,ih (i+1) (A++a.strip.cells) (B.drop s) (by simp[Ks,h3,hA,Nat.succ_mul]) (by simp;omega) h1' (fun p hp=>h2 p (List.mem_cons_of_mem _ hp))]
  simp[flatC]
theorem MJ {t:TypeId} {len:Nat} {aps:List (Nat × AV)} {vps:List (Nat × Value)} {d:AV} (h:DI P t len aps=some d) (hp:Sv g w aps vps) :
  ∃ es e s cells',d=.slice .full es∧Bn P t=some e∧Av P e=some s∧0<s∧es.length=len∧(∀ x∈es,x.cells.length=s)∧(Instr.buildSlice t len vps.toArray).run P w=.ok (.slice (some ⟨w.heap.size,0,none⟩) len len) (w.alloc (.cells cells' e (0,0)))∧Bi g w (flatC es) cells'∧∀ c∈flatC es,c.one=true:=by
 unfold DI at h
 split at h
 ·rename_i e he
  split at h
  ·rename_i s hs
   split at h
   ·rename_i hc
    obtain⟨h0,hbig,hz,hidx,hall⟩:=hc
    injection h with h;subst h
    obtain⟨zs,hzs,hzl⟩:∃ zs,DE P e=some zs∧zs.length=s:=by
     cases hx:DE P e with
     | none=>rw[hx] at hz;cases hz
     | some zs=>rw[hx] at hz;injection hz with hz;exact⟨zs,rfl,hz⟩
    obtain⟨zv,hzv,hr,ho⟩:=RU hzs
    have hlen:aps.length=len:=by have:=congrArg List.length hidx;simpa using this
    have hzvs:zv.cells.size=s:=by rw[(hr g w).1,hzl]
    let init:List AV:=(List.range (len * s)).map fun k=>(zs[k % s]?).getD AV.undef
    have hget:∀ k,∃ c v,zs[k % s]?=some c∧zv.cells[k % s]?=some v∧c.one=true∧Rep g w c v:=by
     intro k
     have hlt:k % s<s:=Nat.mod_lt _ h0
     refine⟨zs[k % s]'(by omega),zv.cells[k % s]'(by omega),List.getElem?_eq_getElem (by omega),Array.getElem?_eq_getElem (by omega),ho _ (List.getElem_mem ..),?_⟩
     exact(hr g w).2 (k % s) _ _ (List.getElem?_eq_getElem (by omega)) (Array.getElem?_eq_getElem (by omega))
    have hinit:Bi g w init ((Array.range (len * s)).map (zv.cells[· % zv.cells.size]!)):=by
     refine⟨by simp[init],fun j c v hc hv=>?_⟩
     have hj:j<len * s:=by have:=(List.getElem?_eq_some_iff.1 hc).1;simpa [init] using this
     obtain⟨c0,v0,h1,h2,_,h4⟩:=hget j
     simp only[init,List.getElem?_map,List.getElem?_range hj,Option.map_some,h1,Option.getD_some] at hc
     injection hc with hc;subst hc
     simp only[Array.getElem?_map,Array.getElem?_range,hj,if_true,Option.map_some,hzvs] at hv
     injection hv with hv;subst hv
     rw[getElem!_def,h2]
     exact h4
    have hinito:∀ c∈init,c.one=true:=by
     intro c hc
     simp only[init,List.mem_map] at hc
     obtain⟨k,_,rfl⟩:=hc
     obtain⟨c0,v0,h1,_,h3,_⟩:=hget k
     rw[h1];exact h3
    have hfl:Gg (fun i=>some (i * s,s)) init aps=some (flatC (aps.map fun p=>p.2.strip)):=by
     have:=ADx aps 0 [] init (by simp) (by simp[init,hlen]) (by rw[hidx,hlen,List.range_eq_range']) hall
     simpa using this
    obtain⟨cells',h1,h2,h3⟩:=VP hp hinit hinito hfl
    have hl2:(aps.map fun p=>p.2.strip).length=len:=by simp[hlen]
    have hstrip:∀ x∈(aps.map fun p=>p.2.strip),x.cells.length=s:=by
     intro x hx
     obtain⟨p,hp',rfl⟩:=List.mem_map.1 hx
     rw[Ks,List.length_map];exact(hall p hp').1
    refine⟨_,e,s,cells',rfl,he,hs,h0,hl2,hstrip,?_,h2,h3⟩
    ·have hbig':¬ (len * s > 2 ^ 24):=by omega
     by_cases hn:len * s=0
     ·have e0:len=0:=by
       rcases Nat.mul_eq_zero.1 hn with h | h
       ·exact h
       ·omega
      subst e0
      have:aps=[]:=List.eq_nil_of_length_eq_zero hlen
      subst this
      cases vps with
      | nil =>
       simp[Instr.fill] at h1
       subst h1
       have hmt:∀ f:Nat→Value,Array.map f (Array.range 0) = #[]:=fun f=>by simp
       simp[Instr.buildSlice,Au (DX he),Cb hs,Instr.fill,newRow]
       rw[hmt,hmt]
      | cons=>exact hp.elim
     ·simp only[Instr.buildSlice,Sem.run_bind,Au (DX he),Result.andThen_ok,Cb hs,if_neg hbig',if_neg hn,Fv hzv,Sem.run_pure]
      simp[h1,newRow]
   ·cases h
  ·cases h
 ·cases h
theorem Vp {t:TypeId} {len:Nat} {aps:List (Nat × AV)} {vps:List (Nat × Value)} {d:AV} (h:DI P t len aps=some d) (hp:Sv g w aps vps) (hm:Aa g m w) :
  ∃ v w',(Instr.buildSlice t len vps.toArray).run P w=.ok v w'∧As g m g m w w'∧Aa g m w'∧Rep g w' d v:=by
 obtain⟨es,e,s,cells',rfl,he,hs,h0,hl2,hstrip,hrun,h2,h3⟩:=MJ h hp
 have hst:As g m g m w (w.alloc (.cells cells' e (0,0))):=As.plain rfl rfl rfl (by simp) (fun b hb=>EX w _ hb)
 refine⟨_,_,hrun,hst,hm.plain hst (fun b hb=>EX w _ hb),?_⟩
 suffices key:Rep g (w.alloc (.cells cells' e (0,0))) (.slice .full es) (.slice (some ⟨w.heap.size,0,none⟩) es.length len) by
  rw[hl2] at key;exact key
 refine Rep.of_block h0 hstrip (FF w _) ⟨fun l hl=>absurd (hm.box l _ hl) (Nat.lt_irrefl _),fun id hid=>absurd (hm.row id _ hid) (Nat.lt_irrefl _)⟩ ?_ (fun j c v hj hv=>(h2.2 j c v hj hv).step hm hst) h3 (by rw[hl2];exact Nat.le_refl _) (by rw[hl2];rfl)
 rw[h2.1,Bz hstrip];exact Nat.le_refl _
theorem Oi (P:Program) (t:TypeId) (m:Mem) (d:AV):LP P t m d=(d,m)∨∃ es el s,d=.slice .full es∧Bn P t=some el∧Av P el=some s∧LP P t m d=(.vec m.rows.length 0 es.length s .opn,m.pushRow 0 (flatC es)):=by
 unfold LP
 split
 ·rename_i e e2 l el s he hs
  split
  ·rw[he] at hs
   exact .inr ⟨_,el,s,rfl,he,hs,rfl⟩
  ·exact .inl rfl
 ·exact .inl rfl
theorem YY {t:TypeId} {len:Nat} {aps:List (Nat × AV)} {vps:List (Nat × Value)} {d0 d:AV} {m':Mem} (h:DI P t len aps=some d0) (hl:LP P t m d0=(d,m')) (hf:DR g m m') (hp:Sv g w aps vps) (hm:Aa g m w) :
  ∃ v w',(Instr.buildSlice t len vps.toArray).run P w=.ok v w'∧∃ g',As g m g' m' w w'∧Aa g' m' w'∧Rep g' w' d v:=by
 rcases Oi P t m d0 with hc | ⟨es0,el,s0,hd0,hel,hs0,hc⟩
 ·rw[hc] at hl
  injection hl with e1 e2;subst e1 e2
  obtain⟨v,w',h1,h2,h3,h4⟩:=Vp h hp hm
  exact⟨v,w',h1,g,h2,h3,h4⟩
 ·rw[hc] at hl
  injection hl with e1 e2;subst e1 e2
  obtain⟨es,e,s,cells',hd,he,hs,h0,hl2,hstrip,hrun,h2,h3⟩:=MJ h hp
  rw[hd] at hd0;injection hd0 with _ hd0;subst hd0
  rw[he] at hel;injection hel with hel;subst hel
  rw[hs] at hs0;injection hs0 with hs0;subst hs0
  have hsz:cells'.size=es.length * s:=by rw[h2.1,Bz hstrip]
  have hst:=Ko (.cells cells' e (0,0)) 0 (flatC es) hf hm
  have hm':=Oq cells' e 0 (flatC es) hf hm (by rw[h2.1];exact Nat.le_refl _) (fun j c hj=>⟨h3 c (List.mem_of_getElem? hj),fun v hv=>h2.2 j c v hj hv⟩)
  refine⟨_,_,hrun,_,hst,hm',?_⟩
  rw[← hl2]
  refine .vec _ _ _ _ _ _ _ rfl h0 (Nat.le_refl _) (fun h=>by cases h) (by simp[Gh.newRow]) (fun b hb=>?_)
  have:b=w.heap.size:=by simpa [Gh.newRow] using hb.symm
  subst this
  exact⟨rfl,cells',e,FF _ _,by rw[hsz];simp,fun _=>by rw[hsz];simp⟩
theorem AGU {t:TypeId} {cs:List AV} (h:DE P t=some cs) (hf:DR g m (m.push (.cells cs))) (hm:Aa g m w) :
  ∃ v w',(Instr.alloc t true (.tuple #[])).run P w=.ok v w'∧∃ g',As g m g' (m.push (.cells cs)) w w'∧Aa g' (m.push (.cells cs)) w'∧Rep g' w' (.ptr m.boxes.length 0) v:=by
 obtain⟨zv,hzv,hr,ho⟩:=RU h
 have hst:=JE (.cells zv.cells t (0,0)) (.cells cs) hf hm
 refine⟨.pointer (some ⟨w.heap.size,0,none⟩),w.alloc (.cells zv.cells t (0,0)),?_,_,hst,Le _ _ hf hm ⟨_,t,FF w _,hr _ _,ho⟩,.ptr _ _ _ (by simp[Gh.newBox])⟩
 simp[Instr.alloc,Fv hzv,newVar,newRow]
theorem ALp {t:TypeId} {a:AV} {v:Value} (hn:Bj a=true) (hf:DR g m (m.push (.cells a.cells))) (hm:Aa g m w) (ha:Rep g w a v) :
  ∃ v' w',(Instr.box t v).run P w=.ok v' w'∧∃ g',As g m g' (m.push (.cells a.cells)) w w'∧Aa g' (m.push (.cells a.cells)) w'∧Rep g' w' (.ptr m.boxes.length 0) v':=by
 obtain⟨hr,ho⟩:=ha.cells (Kk hn)
 have hst:=JE (.cells v.cells t (0,0)) (.cells a.cells) hf hm
 refine⟨.pointer (some ⟨w.heap.size,0,none⟩),w.alloc (.cells v.cells t (0,0)),?_,_,hst,Le _ _ hf hm ⟨_,t,FF w _,hr.step hm hst,ho⟩,.ptr _ _ _ (by simp[Gh.newBox])⟩
 simp[Instr.box,newVar,newRow]
theorem AK9 {b:Bool} {x y d:AV} {vx vy:Value} (h:amm b x y=some d) (hx:Rep g w x vx) (hy:Rep g w y vy):∃ v,(if b then Builtin.max2 vx vy else Builtin.min2 vx vy).run P w=.ok v w∧Rep g w d v:=by
 unfold amm at h
 split at h
 ·obtain rfl:=hx.atom_inv
  obtain rfl:=hy.atom_inv
  split at h
  ·rename_i hk
   subst hk
   injection h with h;subst h
   cases b
   ·exact⟨_,by simp[Builtin.min2],.atom _ rfl⟩
   ·exact⟨_,by simp[Builtin.max2],.atom _ rfl⟩
  ·cases h
 ·cases h
theorem Ud {b:Bool} {as_:List AV} {d:AV} {vs:Array Value} (ts:Array TypeId) (ty:TypeId) (h:Ls b as_=some d) (hr:Bi g w as_ vs):∃ v,(if b then Builtin.max_ ts ty vs else Builtin.min_ ts ty vs).run P w=.ok v w∧Rep g w d v:=by
 obtain⟨vs⟩:=vs
 have key:∀ (as_:List AV) (vs:List Value) (x:AV) (vx:Value),as_.length=vs.length→(∀ (j:Nat) (a:AV) (v:Value),as_[j]?=some a→vs[j]?=some v→Rep g w a v)→Rep g w x vx→∀ d,as_.foldlM (amm b) x=some d →
   ∃ v,(vs.foldlM (fun x y=>if b then Builtin.max2 x y else Builtin.min2 x y) vx).run P w=.ok v w∧Rep g w d v:=by
  intro as_
  induction as_ with
  | nil =>
   intro vs x vx hl _ hx d hd
   have:vs=[]:=List.eq_nil_of_length_eq_zero hl.symm
   subst this
   simp at hd;subst hd
   exact⟨vx,by simp,hx⟩
  | cons a as_ ih =>
   intro vs x vx hl hr hx d hd
   cases vs with
   | nil=>simp at hl
   | cons v vs =>
    rw[List.foldlM_cons] at hd
    cases h1:amm b x a with
    | none=>rw[h1] at hd;cases hd
    | some x' =>
     rw[h1] at hd
     obtain⟨v',h2,h3⟩:=AK9 (P:=P) h1 hx (hr 0 a v rfl rfl)
     obtain⟨v'',h4,h5⟩:=ih vs x' v' (by simpa using hl) (fun j a v ha hv=>hr (j+1) a v (by simpa using ha) (by simpa using hv)) h3 d hd
     refine⟨v'',?_,h5⟩
     rw[List.foldlM_cons]
     simp only[Sem.run_bind,h2,Result.andThen_ok,h4]
 cases as_ with
 | nil=>cases h
 | cons a as_ =>
  have hl:=hr.1
  cases vs with
  | nil=>simp at hl
  | cons v vs =>
   obtain⟨v',h1,h2⟩:=key as_ vs a v (by simpa using hl.symm) (fun j a v ha hv=>hr.2 (j+1) a v (by simpa using ha) (by simpa using hv)) (hr.2 0 a v rfl rfl) d h
   refine⟨v',?_,h2⟩
   cases b
   ·simpa [Builtin.min_] using h1
   ·simpa [Builtin.max_] using h1
end
end
section
section
variable {g:Gh} {m:Mem} {w:World} {P:Program}
theorem ZP {t:TypeId} {q:TypeId × TypeId} (h:Oo P t=some q):P.underlying t=some (.map q.1 q.2):=by
 unfold Oo at h
 split at h
 ·rename_i h1;injection h with h;subst h;exact h1
 ·cases h
theorem Zq {t:TypeId} {d:TypeDesc} (h:ON P t=some d):P.underlying t=some d∧((∃ k,d=.int k)∨d=.bool):=by
 unfold ON at h
 split at h
 ·rename_i h1;injection h with h;subst h;exact⟨h1,.inl ⟨_,rfl⟩⟩
 ·rename_i h1;injection h with h;subst h;exact⟨h1,.inr rfl⟩
 ·cases h
def Ow (g:Gh) (w:World) (es:List (Value × AV × Nat)) (vs:List MapEntry):Prop:=vs.length=es.length∧∀ (j:Nat) (k:Value) (a:AV) (n:Nat) (e:MapEntry),es[j]?=some (k,a,n)→vs[j]?=some e→e.key=k∧e.born=n∧Rep g w a e.val
theorem ACX {d:TypeDesc} {k k':Value} (hd:(∃ k,d=.int k)∨d=.bool) (h:Go.Instr.sameNow d k k'=some true):k=k'∧Go.Instr.sameBits 10000 k k'=true:=by
 unfold Go.Instr.sameNow at h
 split at h
 ·split at h
  ·rename_i hk;subst hk
   injection h with h
   have:=eq_of_beq h
   subst this
   exact⟨rfl,by simp[Go.Instr.sameBits]⟩
  ·cases h
 ·rcases hd with⟨_,hd⟩ | hd <;> cases hd
 ·injection h with h
  have:=eq_of_beq h
  subst this
  exact⟨rfl,by simp[Go.Instr.sameBits]⟩
 ·cases h
theorem TU {d:TypeDesc} {k:Value} (hd:(∃ k,d=.int k)∨d=.bool):∀ {es:List (Value × AV × Nat)} {vs:List MapEntry} {i:Nat} {r:Option (Nat × AV)},Ow g w es vs→Lm d k es i=some r →
  (r=none∧Go.Instr.findNow d k vs i=some none)∨∃ j a e,r=some (i+j,a)∧Go.Instr.findNow d k vs i=some (some (i+j,e.val))∧vs[j]?=some e∧Rep g w a e.val∧e.key=k∧Go.Instr.sameBits 10000 k k=true∧j<es.length:=by
 intro es
 induction es with
 | nil =>
  intro vs i r h1 h2
  have:vs=[]:=List.eq_nil_of_length_eq_zero (by simpa using h1.1)
  subst this
  simp only[Lm] at h2;injection h2 with h2
  exact .inl ⟨h2.symm,rfl⟩
 | cons x es ih =>
  intro vs i r h1 h2
  obtain⟨hl,hc⟩:=h1
  cases vs with
  | nil=>simp at hl
  | cons e vs =>
   obtain⟨kx,ax,nx⟩:=x
   obtain⟨e1,e2,e3⟩:=hc 0 kx ax nx e rfl rfl
   simp only[Lm] at h2
   simp only[Go.Instr.findNow]
   rw[e1]
   split at h2
   ·rename_i hs
    injection h2 with h2;subst h2
    obtain⟨rfl,hb⟩:=ACX hd hs
    rw[hs]
    exact .inr ⟨0,ax,e,rfl,rfl,rfl,e3,e1,hb,by simp⟩
   ·rename_i hs
    rw[hs]
    rcases ih ⟨by simpa using hl,fun j k a n e hj hv=>hc (j+1) k a n e (by simpa using hj) (by simpa using hv)⟩ h2 with⟨h3,h4⟩|⟨j,a,e',h3,h4,h5,h6,h7,h8,h9⟩
    ·exact .inl ⟨h3,h4⟩
    ·refine .inr ⟨j+1,a,e',?_,?_,by simpa using h5,h6,h7,h8,by simpa using h9⟩
     ·rw[h3,show i+1+j=i+(j+1) by omega]
     ·rw[h4,show i+1+j=i+(j+1) by omega]
   ·cases h2
theorem JO {kt:TypeId} {d:TypeDesc} {k:Value} {vs:List MapEntry} {r:Option (Nat × Value)} (hd:P.underlying kt=some d) (h:Go.Instr.findNow d k vs 0=some r):(Go.Instr.findKey kt k vs).run P w=.ok r w:=by
 simp[Go.Instr.findKey,Au hd,h]
theorem IH {kt:TypeId} {d:TypeDesc} {k:Value} {b:Bool} (hd:P.underlying kt=some d) (hk:(∃ k,d=.int k)∨d=.bool):(Go.Instr.checkKey b 10000 kt k).run P w=.ok () w:=by
 have key:∀ n,(Go.Instr.checkKey b (n+1) kt k).run P w=.ok () w:=by
  intro n
  rcases hk with⟨_,rfl⟩ | rfl <;> simp[Go.Instr.checkKey,Au hd]
 exact key 9999
theorem ADJ {t:TypeId} {z:AV} (h:UK P t=some z):∃ v,(zeroValue t).run P w=.ok v w∧Rep g w z v:=by
 unfold UK at h
 obtain⟨v,h1,h2⟩:=Option.bind_eq_some_iff.1 h
 exact⟨v,Fv h1 w,NQ h2⟩
theorem Rep.map_inv {l:Nat} {v:Value} (h:Rep g w (.map l) v):∃ b,g.box l=some b∧v=.map (some b):=by
 cases h with | map _ b hb=>exact⟨b,hb,rfl⟩
theorem Ow.of {b:Nat} {es:List (Value × AV × Nat)} {clock:Nat} (h:Kn g w b (.map es clock)):∃ vs:Array MapEntry,w.heap[b]?=some (.map vs clock)∧Ow g w es vs.toList:=by
 obtain⟨vs,h1,h2,h3⟩:=h
 exact⟨vs,h1,by simpa using h2,fun j k a n e hj hv=>h3 j k a n e hj (by simpa using hv)⟩
theorem OB {r:Nat} {es:Array MapEntry} {clock:Nat} (hb:w.heap[r]?=some (.map es clock)):(getObj r).run P w=.ok (.map es clock) w:=by
 simp[getObj,Sem.run,hb]
theorem ADM {b:Nat} {es:Array MapEntry} {clock:Nat} (o:Obj) (hb:w.heap[b]?=some (.map es clock)):(setObj b o).run P w=.ok () (Dl w b o):=by
 simp[setObj,Sem.run,hb,Dl]
theorem AE7 {x:AV} {es:List (Value × AV × Nat)} (h:YB m x=some es):(x=.atom (.map none)∧es=[])∨∃ l clock,x=.map l∧m.boxes[l]?=some (.map es clock):=by
 unfold YB at h
 split at h
 ·injection h with h;exact .inl ⟨rfl,h.symm⟩
 ·split at h
  ·rename_i hb;injection h with h;subst h;exact .inr ⟨_,_,rfl,hb⟩
  ·cases h
 ·cases h
theorem AA9 {ok b:Bool} {a:AV} {v:Value} (hav:Rep g w a v):Rep g w (if ok=true then .tuple [a,.bool b] else a) (if ok=true then .tuple #[v,.bool b] else v):=by
 cases ok with
 | false=>simpa using hav
 | true =>
  simp only[if_true]
  refine .tuple _ _ rfl (fun j c x hj hx=>?_)
  match j with
  | 0=>simp at hj hx;subst hj hx;exact hav
  | 1=>simp at hj hx;subst hj hx;exact .atom _ rfl
  | j+2=>simp at hj
theorem ACi {t:TypeId} {x k d:AV} {ok:Bool} {vx vk:Value} (h:Lv P m t x k ok=some d) (hm:Aa g m w) (hx:Rep g w x vx) (hk:Rep g w k vk):∃ v,(Instr.lookup t vx vk ok).run P w=.ok v w∧Rep g w d v:=by
 unfold Lv at h
 obtain⟨q,hq,h⟩:=Option.bind_eq_some_iff.1 h
 obtain⟨kd,hkd,h⟩:=Option.bind_eq_some_iff.1 h
 obtain⟨kv,hkv,h⟩:=Option.bind_eq_some_iff.1 h
 obtain⟨es,hes,h⟩:=Option.bind_eq_some_iff.1 h
 obtain⟨r,hr,hfin⟩:=Option.bind_eq_some_iff.1 h
 have hkk:vk=kv:=by
  cases k <;> simp only[OV] at hkv <;> try cases hkv
  exact hk.atom_inv
 subst hkk
 obtain⟨hd,hcase⟩:=Zq hkd
 have hu:=ZP hq
 clear h
 have key:∀ vs:Array MapEntry,Ow g w es vs.toList→∃ r' v,Go.Instr.findNow kd vk vs.toList 0=some r'∧Rep g w d v ∧
   ((∃ z,r'=none∧(zeroValue q.2).run P w=.ok z w∧v=(if ok=true then .tuple #[z,.bool false] else z))∨∃ j z,r'=some (j,z)∧v=(if ok=true then .tuple #[z,.bool true] else z)):=by
  intro vs hvs
  rcases TU hcase hvs hr with⟨h1,h2⟩|⟨j,a,e,h1,h2,_,h4,_⟩
  ·subst h1
   simp only[LK] at hfin
   obtain⟨z,hz,rfl⟩:=Option.map_eq_some_iff.1 hfin
   obtain⟨z0,hz1,rfl⟩:=Option.map_eq_some_iff.1 (show (UK P q.2).map AV.strip=some z from hz)
   obtain⟨v,h3,h4⟩:=ADJ (g:=g) (w:=w) hz1
   exact⟨none,_,h2,AA9 (Jw h4),.inl ⟨v,rfl,h3,rfl⟩⟩
  ·subst h1
   simp only[LK] at hfin
   injection hfin with hfin;subst hfin
   exact⟨_,_,h2,AA9 h4,.inr ⟨_,e.val,rfl,rfl⟩⟩
 rcases AE7 hes with⟨rfl,rfl⟩|⟨l,clock,rfl,hb⟩
 ·have hv:=hx.atom_inv
  subst hv
  obtain⟨r',v,h1,h2,h3⟩:=key #[] ⟨rfl,fun j k a n e hj=>by simp at hj⟩
  refine⟨v,?_,h2⟩
  rcases h3 with⟨z,rfl,h3,rfl⟩|⟨j,z,rfl,rfl⟩
  ·simp[Instr.lookup,Au hu,IH hd hcase,JO hd h1,h3]
  ·simp[Instr.lookup,Au hu,IH hd hcase,JO hd h1]
 ·obtain⟨b,hgb,rfl⟩:=hx.map_inv
  obtain⟨vs,hv1,hv2⟩:=Ow.of (hm.boxOk l b _ hgb hb)
  obtain⟨r',v,h1,h2,h3⟩:=key vs hv2
  refine⟨v,?_,h2⟩
  rcases h3 with⟨z,rfl,h3,rfl⟩|⟨j,z,rfl,rfl⟩
  ·simp[Instr.lookup,Au hu,IH hd hcase,JO hd h1,OB hv1,h3]
  ·simp[Instr.lookup,Au hu,IH hd hcase,JO hd h1,OB hv1]
theorem AE4 {b l:Nat} {es:List (Value × AV × Nat)} {clock:Nat} {kv:Value} {kd:TypeDesc} {a:AV} {v:Value} {r:Option (Nat × AV)} {vs:Array MapEntry} (hb:g.box l=some b) (hl:l<m.boxes.length) (hm:Aa g m w)
  (hv1:w.heap[b]?=some (.map vs clock)) (hv2:Ow g w es vs.toList) (hd:(∃ k,kd=.int k)∨kd=.bool) (hr:Lm kd kv es 0=some r) (ha:Rep g w a v) :
  ∃ vs' clock',(∀ r',Go.Instr.findNow kd kv vs.toList 0=some r'→(match r' with
   | some (i,_)=>(do
    let key ← Go.Instr.keyThatStays (((vs[i]?).map (fun (e:MapEntry)=>e.key)).getD kv) kv
    setObj b (.map (vs.modify i fun (e:MapEntry)=>{ e with key,val:=v }) clock):Sem Unit)
   | none=>setObj b (.map (vs.push { key:=kv,val:=v,born:=clock }) (clock+1))).run P w=.ok () (Dl w b (.map vs' clock'))) ∧
   As g m g (m.set l (JL es clock kv a.strip r)) w (Dl w b (.map vs' clock'))∧Aa g (m.set l (JL es clock kv a.strip r)) (Dl w b (.map vs' clock')):=by
 have hbl:b<w.heap.size:=hm.box l b hb
 have hset:∀ o:Obj,(setObj b o).run P w=.ok () (Dl w b o):=fun o=>ADM o hv1
 rcases TU hd hv2 hr with⟨rfl,h2⟩|⟨j,c,e,rfl,h2,h3,h4,h5,h6,h7⟩
 ·have hst:=JF (.map (vs.push { key:=kv,val:=v,born:=clock }) (clock+1)) (JL es clock kv a.strip none) hb hl hm
  refine⟨_,_,fun r' hr'=>?_,hst,LZ _ _ hb hl hm ?_⟩
  ·rw[h2] at hr';injection hr' with hr';subst hr';exact hset _
  ·refine⟨_,EG _ _ _ hbl,by simp[hv2.1.symm],fun q k x n e' hq hv=>?_⟩
   have hsz:vs.size=es.length:=by simpa using hv2.1
   rcases Nat.lt_or_ge q es.length with h8 | h8
   ·rw[List.getElem?_append_left h8] at hq
    rw[Array.getElem?_push,if_neg (by omega)] at hv
    obtain⟨i1,i2,i3⟩:=hv2.2 q k x n e' hq (by simpa using hv)
    exact⟨i1,i2,i3.step hm hst⟩
   ·rw[List.getElem?_append_right h8] at hq
    have hq0:q=es.length:=by
     rcases Nat.lt_or_ge (q - es.length) 1 with h9 | h9
     ·omega
     ·rw[List.getElem?_eq_none (by simpa using h9)] at hq;cases hq
    subst hq0
    simp at hq
    rw[Array.getElem?_push,if_pos (by omega)] at hv
    injection hv with hv;subst hv
    obtain⟨rfl,rfl,rfl⟩:=hq
    exact⟨rfl,rfl,(Jw ha).step hm hst⟩
 ·have hst:=JF (.map (vs.modify (0+j) fun (e:MapEntry)=>{ e with key:=kv,val:=v }) clock) (JL es clock kv a.strip (some (0+j,c))) hb hl hm
  refine⟨_,_,fun r' hr'=>?_,hst,LZ _ _ hb hl hm ?_⟩
  ·rw[h2] at hr';injection hr' with hr';subst hr'
   have h3':vs[0+j]?=some e:=by simpa using h3
   dsimp only
   rw[h3']
   simp only[Option.map_some,Option.getD_some,h5]
   simp[Go.Instr.keyThatStays,h6,hset]
  ·refine⟨_,EG _ _ _ hbl,by simp[hv2.1.symm],fun q k x n e' hq hv=>?_⟩
   rw[List.getElem?_modify] at hq
   simp only[Array.getElem?_modify] at hv
   cases hes:es[q]? with
   | none=>rw[hes] at hq;cases hq
   | some y =>
    cases hvs:vs[q]? with
    | none=>rw[hvs] at hv;exfalso;split at hv <;> cases hv
    | some z =>
     rw[hes] at hq
     rw[hvs] at hv
     simp only[Option.map_eq_map,Option.map_some,Option.some.injEq] at hq
     obtain⟨i1,i2,i3⟩:=hv2.2 q y.1 y.2.1 y.2.2 z hes (by simpa using hvs)
     by_cases hqj:0+j=q
     ·rw[if_pos hqj] at hq hv
      injection hv with hv
      subst hv
      injection hq with q1 q2;injection q2 with q2 q3;subst q1 q2 q3
      exact⟨rfl,i2,(Jw ha).step hm hst⟩
     ·rw[if_neg hqj] at hq hv
      injection hv with hv
      subst hv
      subst hq
      exact⟨i1,i2,i3.step hm hst⟩
theorem Ua {t:TypeId} {p k x:AV} {vp vk vx:Value} {m':Mem} (h:GM P m t p k x=some m') (hm:Aa g m w) (hp:Rep g w p vp) (hk:Rep g w k vk) (hx:Rep g w x vx) :
  ∃ w',(Instr.mapUpdate t vp vk vx).run P w=.ok () w'∧As g m g m' w w'∧Aa g m' w':=by
 unfold GM at h
 split at h
 ·rename_i l
  split at h
  ·rename_i es clock hb
   obtain⟨q,hq,h⟩:=Option.bind_eq_some_iff.1 h
   obtain⟨kd,hkd,h⟩:=Option.bind_eq_some_iff.1 h
   obtain⟨kv,hkv,h⟩:=Option.bind_eq_some_iff.1 h
   split at h
   ·obtain⟨r,hr,rfl⟩:=Option.map_eq_some_iff.1 h
    have hkk:vk=kv:=by
     cases k <;> simp only[OV] at hkv <;> try cases hkv
     exact hk.atom_inv
    subst hkk
    obtain⟨hd,hcase⟩:=Zq hkd
    have hu:=ZP hq
    obtain⟨b,hgb,rfl⟩:=hp.map_inv
    obtain⟨vs,hv1,hv2⟩:=Ow.of (hm.boxOk l b _ hgb hb)
    have hl:l<m.boxes.length:=(List.getElem?_eq_some_iff.1 hb).1
    obtain⟨vs',clock',h1,h2,h3⟩:=AE4 (P:=P) hgb hl hm hv1 hv2 hcase hr hx
    refine⟨_,?_,h2,h3⟩
    obtain⟨r',hr'⟩:∃ r',Go.Instr.findNow kd vk vs.toList 0=some r':=by
     rcases TU hcase hv2 hr with⟨_,h4⟩|⟨_,_,_,_,h4,_⟩ <;> exact⟨_,h4⟩
    have h5:=h1 r' hr'
    rw[← h5]
    simp[Instr.mapUpdate,Au hu,IH hd hcase,JO hd hr',OB hv1]
    cases r' with
    | none=>rfl
    | some y=>rfl
   ·cases h
  ·cases h
 ·cases h
theorem AB3 {t:TypeId} (hf:DR g m (m.push (.map [] 0))) (hm:Aa g m w) :
  ∃ v w',(Instr.makeMap t none).run P w=.ok v w'∧∃ g',As g m g' (m.push (.map [] 0)) w w'∧Aa g' (m.push (.map [] 0)) w'∧Rep g' w' (.map m.boxes.length) v:=by
 have hst:=JE (.map #[] 0) (.map [] 0) hf hm
 refine⟨.map (some w.heap.size),w.alloc (.map #[] 0),?_,_,hst,Le _ _ hf hm ⟨#[],FF w _,rfl,fun j k a n e hj=>by simp at hj⟩,.map _ _ (by simp[Gh.newBox])⟩
 simp only[Instr.makeMap,run_newObj,World.alloc,Sem.run_bind,Result.andThen];rfl
end
end
section
def JU (P:Program) (s:Sem Next) (w:World) (post:Value→World→Prop):Prop :=
 match s.run P w with
 | .ok (.value v) w'=>post v w'
 | .ok .skip w'=>post Go.undef w'
 | .ok (.enter f args) w'=>CallsIn Fence.wide 0 P f args w' fun e w''=>∃ v,e=.returned v∧post v w''
 | .ok (.round l f tmps assign body) w'=>RoundIn Fence.wide 0 P l f tmps assign body w' fun e w''=>∃ v,e=.returned v∧post v w''
 | _=>False
def ACQ (g:Gh) (w:World) (env:List AV) (l:Array Operand) (ρ:Operand→Value):Prop:=∀ x∈l,∀ a,BF env x=some a→Rep g w a (ρ x)
def Good (g:Gh) (m m':Mem) (w:World) (d:AV) (v:Value) (w':World):Prop:=∃ g',As g m g' m' w w'∧Aa g' m' w'∧Rep g' w' d v
def AOp (P:Program) (o:Oper) (env:List AV) (m:Mem) (d:AV) (m':Mem):Prop :=
 Bx m m'∧∀ (g:Gh) (w:World) (ρ:Operand→Value),(∀ v,ρ (.const v)=v)→(∀ f,ρ (.func f)=.func (.func f) #[] #[])→DR g m m'→Aa g m w→ACQ g w env o.op.operands ρ→JU P (execOp ρ o) w (Good g m m' w d)
section
variable {g:Gh} {m:Mem} {w:World} {P:Program}
theorem Bg {s:Sem Next} {v:Value} {w':World} {post:Value→World→Prop} (h:s.run P w=.ok (.value v) w') (hp:post v w'):JU P s w post:=by
 unfold JU;rw[h];exact hp
theorem OE {s:Sem Next} {w':World} {post:Value→World→Prop} (h:s.run P w=.ok .skip w') (hp:post Go.undef w'):JU P s w post:=by
 unfold JU;rw[h];exact hp
theorem Cq {d:AV} {v:Value} (hm:Aa g m w) (h:Rep g w d v):Good g m m w d v w:=⟨g,As.refl g m w,hm,h⟩
theorem Ki {env:List AV} {ρ:Operand→Value}:∀ {l:List Operand} {as_:List AV},EQ env l=some as_→(∀ x∈l,∀ a,BF env x=some a→Rep g w a (ρ x))→Bi g w as_ (l.map ρ).toArray:=by
 intro l
 induction l with
 | nil=>intro as_ h _;simp[EQ] at h;subst h;exact⟨rfl,fun j a v h=>by simp at h⟩
 | cons x l ih =>
  intro as_ h hr
  simp only[EQ,List.mapM_cons] at h
  cases hx:BF env x with
  | none=>rw[hx] at h;cases h
  | some a =>
   cases hl:l.mapM (BF env) with
   | none=>rw[hx,hl] at h;cases h
   | some as' =>
    rw[hx,hl] at h
    injection h with h
    subst h
    obtain⟨h1,h2⟩:=ih hl (fun y hy=>hr y (List.mem_cons_of_mem _ hy))
    refine⟨by simp at h1 ⊢;exact h1,fun j a' v ha hv=>?_⟩
    cases j with
    | zero=>simp at ha hv;subst ha hv;exact hr x (List.mem_cons_self ..) a hx
    | succ j=>simp at ha hv;exact h2 j a' v ha (by simpa using hv)
theorem SP {env:List AV} {ρ:Operand→Value}:∀ {l:List (Nat × Operand)} {as_:List (Nat × AV)},JM env l=some as_→(∀ p∈l,∀ a,BF env p.2=some a→Rep g w a (ρ p.2))→Sv g w as_ (l.map fun p=>(p.1,ρ p.2)):=by
 intro l
 induction l with
 | nil=>intro as_ h _;simp[JM] at h;subst h;trivial
 | cons p l ih =>
  intro as_ h hr
  simp only[JM,List.mapM_cons] at h
  cases hx:BF env p.2 with
  | none=>rw[hx] at h;cases h
  | some a =>
   cases hl:l.mapM (fun p=>(BF env p.2).map (p.1,·)) with
   | none=>rw[hx,hl] at h;cases h
   | some as' =>
    rw[hx,hl] at h
    injection h with h
    subst h
    exact⟨rfl,hr p (List.mem_cons_self ..) a hx,ih hl (fun y hy=>hr y (List.mem_cons_of_mem _ hy))⟩
theorem Bi.strip {as_:List AV} {vs:Array Value} (h:Bi g w as_ vs):Bi g w (as_.map AV.strip) vs :=
 ⟨by simp[h.1],fun j a v ha hv=>by
  rw[List.getElem?_map] at ha
  cases hx:as_[j]? with
  | none=>rw[hx] at ha;cases ha
  | some x=>rw[hx] at ha;injection ha with ha;subst ha;exact Jw (h.2 j x v hx hv)⟩
theorem Ml (c:Ck):Bx m (m.push c):=⟨by simp[Mem.push],Nat.le_refl _⟩
theorem Su (l:Nat) (c:Ck):Bx m (m.set l c):=⟨by simp[Mem.set],Nat.le_refl _⟩
theorem KH (n:Nat) (cs:List AV):Bx m (m.pushRow n cs):=⟨Nat.le_refl _,by simp[Mem.pushRow]⟩
theorem Wv (l n:Nat) (cs:List AV):Bx m ((m.retire l).pushRow n cs):=⟨Nat.le_refl _,by simp[Mem.pushRow,Mem.retire]⟩
theorem NJ (l n:Nat) (cs:List AV):Bx m (m.setRow l n cs):=⟨Nat.le_refl _,by simp[Mem.setRow]⟩
theorem Oy {t xt:TypeId} {x y d:AV} {m':Mem} (h:IL P m t xt x y=some (d,m')):Bx m m':=by
 unfold IL at h
 split at h
 ·split at h
  ·split at h
   ·split at h
    ·injection h with h;injection h with h1 h2;subst h2;exact Bx.refl _
    ·split at h
     ·cases h
     ·injection h with h;injection h with h1 h2;subst h2;exact KH _ _
     ·split at h
      ·injection h with h;injection h with h1 h2;subst h2;exact Wv _ _ _
      ·cases h
   ·cases h
  ·cases h
 ·cases h
theorem ACe (x:AV):Bx m (Kv m x):=by
 unfold Kv
 split
 ·split
  ·exact NJ _ _ _
  ·exact Bx.refl _
 ·exact Bx.refl _
theorem PK {t xt:TypeId} {x y d:AV} {m':Mem} (h:GX P m t xt x y=some (d,m')):Bx m m':=by
 unfold GX at h
 split at h
 ·split at h
  ·split at h
   ·split at h
    ·split at h
     ·injection h with h;injection h with h1 h2;subst h2;exact ACe _
     ·unfold Yp at h
      split at h
      ·injection h with h;injection h with h1 h2;subst h2;exact KH _ _
      ·injection h with h;injection h with h1 h2;subst h2;exact KH _ _
      ·split at h
       ·split at h
        ·injection h with h;injection h with h1 h2;subst h2;exact NJ _ _ _
        ·split at h
         ·injection h with h;injection h with h1 h2;subst h2;exact Wv _ _ _
         ·cases h
       ·cases h
      ·cases h
    ·cases h
   ·cases h
  ·cases h
 ·cases h
theorem Yi {t xt:TypeId} {x y d:AV} {m':Mem} (h:EK P m t xt x y=some (d,m')):Bx m m':=by
 unfold EK at h
 split at h
 ·exact PK h
 ·split at h
  ·split at h
   ·exact PK h
   ·exact Oy h
  ·cases h
 ·exact Oy h
theorem QT {t:TypeId} {p k v:AV} {m':Mem} (h:GM P m t p k v=some m'):Bx m m':=by
 unfold GM at h
 split at h
 ·split at h
  ·obtain⟨q,hq,h⟩:=Option.bind_eq_some_iff.1 h
   obtain⟨kd,hkd,h⟩:=Option.bind_eq_some_iff.1 h
   obtain⟨kv,hkv,h⟩:=Option.bind_eq_some_iff.1 h
   split at h
   ·obtain⟨r,hr,rfl⟩:=Option.map_eq_some_iff.1 h
    exact Su _ _
   ·cases h
  ·cases h
 ·cases h
theorem Dd {α β:Type} {o:Option α} {m m':β} {d:α} (h:o.map (·,m)=some (d,m')):o=some d∧m'=m:=by
 cases o with
 | none=>cases h
 | some x=>injection h with h;injection h with h1 h2;exact⟨by rw[h1],h2.symm⟩
theorem AE {α β:Type} {o:Option α} {f:α→Option β} {b:β} (h:o.bind f=some b):∃ a,o=some a∧f a=some b:=by
 cases o with
 | none=>cases h
 | some x=>exact⟨x,rfl,h⟩
theorem JN {o:Oper} {env:List AV} {d:AV} {m':Mem} (h:aop P o.op env m=some (d,m')):AOp P o env m d m':=by
 obtain⟨dst,op,ty,pos,after,guard⟩:=o
 dsimp only at h
 unfold aop at h
 split at h
 ·-- move
  obtain⟨h1,rfl⟩:=Dd h
  exact⟨Bx.refl _,fun g w ρ _ _ hf hm hr=>Bg rfl (Cq hm (hr _ (by simp[Op.operands]) d h1))⟩
 ·-- assign
  obtain⟨h1,rfl⟩:=Dd h
  exact⟨Bx.refl _,fun g w ρ _ _ hf hm hr=>Bg rfl (Cq hm (hr _ (by simp[Op.operands]) d h1))⟩
 ·-- pick
  rename_i c a b
  split at h
  ·rename_i t hc
   obtain⟨h1,rfl⟩:=Dd h
   refine⟨Bx.refl _,fun g w ρ _ _ hf hm hr=>?_⟩
   have hb:=(hr c (by simp[Op.operands]) _ hc).atom_inv
   refine Bg (v:=if t then ρ a else ρ b) ?_ (Cq hm ?_)
   ·simp[execOp,hb,asBool]
   ·cases t
    ·exact hr b (by simp[Op.operands]) d h1
    ·exact hr a (by simp[Op.operands]) d h1
  ·cases h
 ·-- alloc
  rename_i t
  cases hz:DE P t with
  | none=>rw[hz] at h;cases h
  | some cs =>
   rw[hz] at h;injection h with h;injection h with h1 h2;subst h1 h2
   refine⟨Ml _,fun g w ρ _ _ hf hm hr=>?_⟩
   obtain⟨v,w',h3,h4⟩:=AGU hz hf hm
   exact Bg (by simp[execOp,h3]) h4
 ·-- box
  rename_i t x
  obtain⟨a,ha,h⟩:=AE h
  split at h
  ·rename_i hn
   injection h with h;injection h with h1 h2;subst h1 h2
   refine⟨Ml _,fun g w ρ _ _ hf hm hr=>?_⟩
   obtain⟨v,w',h3,h4⟩:=ALp (P:=P) (t:=t) hn hf hm (hr x (by simp[Op.operands]) a ha)
   exact Bg (by simp[execOp,h3]) h4
  ·cases h
 ·-- build
  rename_i t ps
  obtain⟨as_,ha,h⟩:=AE h
  obtain⟨h1,rfl⟩:=Dd h
  refine⟨Bx.refl _,fun g w ρ _ _ hf hm hr=>?_⟩
  have hp:=SP (g:=g) (w:=w) (ρ:=ρ) ha (fun p hp a' ha'=>hr p.2 (by simp[Op.operands];exact⟨p.1,by simpa using hp⟩) a' ha')
  obtain⟨v,h3,h4⟩:=AEm h1 hp
  refine Bg ?_ (Cq hm h4)
  have e:ps.map (fun p=>(p.1,ρ p.2))=(ps.toList.map fun p=>(p.1,ρ p.2)).toArray:=by
   rw[← Array.toList_map]
  simp only[execOp,Sem.run_bind]
  rw[e,h3]
  rfl
 ·-- buildSlice
  rename_i t len ps
  obtain⟨as_,ha,h⟩:=AE h
  obtain⟨d0,h1,hl⟩:∃ d0,DI P t len as_=some d0∧LP P t m d0=(d,m'):=by
   cases hx:DI P t len as_ with
   | none=>rw[hx] at h;cases h
   | some d0=>rw[hx] at h;injection h with h;exact⟨d0,rfl,h⟩
  refine⟨?_,fun g w ρ _ _ hf hm hr=>?_⟩
  ·rcases Oi P t m d0 with hc | ⟨_,_,_,_,_,_,hc⟩ <;> rw[hc] at hl <;> injection hl with e1 e2 <;> subst e2
   ·exact Bx.refl _
   ·exact KH _ _
  have hp:=SP (g:=g) (w:=w) (ρ:=ρ) ha (fun p hp a' ha'=>hr p.2 (by simp[Op.operands];exact⟨p.1,by simpa using hp⟩) a' ha')
  obtain⟨v,w',h3,g',h4,h5,h6⟩:=YY h1 hl hf hp hm
  refine Bg ?_ ⟨g',h4,h5,h6⟩
  have e:ps.map (fun p=>(p.1,ρ p.2))=(ps.toList.map fun p=>(p.1,ρ p.2)).toArray:=by
   rw[← Array.toList_map]
  simp only[execOp,Sem.run_bind]
  rw[e,h3]
  rfl
 ·-- load
  rename_i t a
  obtain⟨p,ha,h⟩:=AE h
  obtain⟨h1,rfl⟩:=Dd h
  refine⟨Bx.refl _,fun g w ρ _ _ hf hm hr=>?_⟩
  obtain⟨v,h3,h4⟩:=Yu h1 hm (hr a (by simp[Op.operands]) p ha)
  exact Bg (by simp[execOp,h3]) (Cq hm h4)
 ·-- store
  rename_i t a x
  obtain⟨p,ha,h⟩:=AE h
  obtain⟨y,hy,h⟩:=AE h
  cases hs:FL P m t p y with
  | none=>rw[hs] at h;cases h
  | some m1 =>
   rw[hs] at h;injection h with h;injection h with h1 h2;subst h1 h2
   have hmono:Bx m m1:=by
    unfold FL at hs
    split at hs
    ·split at hs
     ·split at hs
      ·injection hs with hs;subst hs;exact Su _ _
      ·cases hs
     ·cases hs
    ·split at hs
     ·split at hs
      ·injection hs with hs;subst hs;exact NJ _ _ _
      ·cases hs
     ·cases hs
    ·cases hs
   refine⟨hmono,fun g w ρ _ _ hf hm hr=>?_⟩
   obtain⟨w',h3,h4,h5⟩:=ADm hs hm (hr a (by simp[Op.operands]) p ha) (hr x (by simp[Op.operands]) y hy)
   exact OE (by simp[execOp,h3]) ⟨g,h4,h5,.tuple [] #[] rfl (fun j c v h=>by simp at h)⟩
 ·-- nilCheck
  rename_i x
  obtain⟨a,ha,h⟩:=AE h
  split at h
  ·injection h with h;injection h with h1 h2;subst h1 h2
   refine⟨Bx.refl _,fun g w ρ _ _ hf hm hr=>?_⟩
   have hx:=hr x (by simp[Op.operands]) _ ha
   obtain⟨b,hb,e⟩:=hx.ptr_inv
   exact Bg (v:=ρ x) (by simp[execOp,e]) (Cq hm hx)
  ·injection h with h;injection h with h1 h2;subst h1 h2
   refine⟨Bx.refl _,fun g w ρ _ _ hf hm hr=>?_⟩
   have hx:=hr x (by simp[Op.operands]) _ ha
   obtain⟨b,o,e,_⟩:=hx.eptr_inv
   exact Bg (v:=ρ x) (by simp[execOp,e]) (Cq hm hx)
  ·injection h with h;injection h with h1 h2;subst h1 h2
   refine⟨Bx.refl _,fun g w ρ _ _ hf hm hr=>?_⟩
   have hx:=hr x (by simp[Op.operands]) _ ha
   obtain⟨a,e,_⟩:=hx.vptr_inv
   exact Bg (v:=ρ x) (by simp[execOp,e]) (Cq hm hx)
  ·rename_i f a b
   injection h with h;injection h with h1 h2;subst h1 h2
   refine⟨Bx.refl _,fun g w ρ _ _ hf hm hr=>?_⟩
   have hx:=hr x (by simp[Op.operands]) _ ha
   have e:∃ fs vs,ρ x=.func (.func f) fs vs:=by
    generalize hy:AV.func f a b=y at hx
    generalize ρ x=v at hx
    cases hx <;> cases hy
    exact⟨_,_,rfl⟩
   obtain⟨fs,vs,e⟩:=e
   exact Bg (v:=ρ x) (by simp[execOp,e]) (Cq hm hx)
  ·cases h
 ·-- binOp
  rename_i op t x y yt
  obtain⟨a,ha,h⟩:=AE h
  obtain⟨b,hb,h⟩:=AE h
  obtain⟨h1,rfl⟩:=Dd h
  refine⟨Bx.refl _,fun g w ρ _ _ hf hm hr=>?_⟩
  obtain⟨v,h3,h4⟩:=AJQ x y h1 (hr x (by simp[Op.operands]) a ha) (hr y (by simp[Op.operands]) b hb)
  refine Bg ?_ (Cq hm h4)
  simp only[execOp,Sem.run_bind] at h3 ⊢
  rw[h3]
  rfl
 ·-- unOp
  rename_i op t x
  obtain⟨a,ha,h⟩:=AE h
  obtain⟨h1,rfl⟩:=Dd h
  refine⟨Bx.refl _,fun g w ρ _ _ hf hm hr=>?_⟩
  obtain⟨v,h3,h4⟩:=AJk (P:=P) h1 (hr x (by simp[Op.operands]) a ha)
  exact Bg (by simp[execOp,h3]) (Cq hm h4)
 ·-- convert
  rename_i s t x
  obtain⟨a,ha,h⟩:=AE h
  split at h
  ·rename_i k n k1 k2 hs ht
   injection h with h;injection h with h1 h2;subst h1 h2
   refine⟨Bx.refl _,fun g w ρ _ _ hf hm hr=>?_⟩
   have hx:=(hr x (by simp[Op.operands]) _ ha).atom_inv
   exact Bg (v:=.int k2 (k2.wrap n)) (by simp[execOp,convert,hx,Au hs,Au ht,Conv.intToInt]) (Cq hm (.atom _ rfl))
  ·cases h
 ·-- makeFunc
  rename_i f first cap
  obtain⟨as_,ha,h⟩:=AE h
  cases hb:EQ env cap.toList with
  | none=>rw[hb] at h;cases h
  | some bs =>
   rw[hb] at h;injection h with h;injection h with h1 h2;subst h1 h2
   refine⟨Bx.refl _,fun g w ρ _ _ hf hm hr=>?_⟩
   have h3:=(Ki (g:=g) (w:=w) (ρ:=ρ) ha (fun y hy a' ha'=>hr y (by simp[Op.operands];exact .inl (by simpa using hy)) a' ha')).strip
   have h4:=Ki (g:=g) (w:=w) (ρ:=ρ) hb (fun y hy a' ha'=>hr y (by simp[Op.operands];exact .inr (by simpa using hy)) a' ha')
   refine Bg (v:=.func (.func f) (first.map ρ) (cap.map ρ)) (by simp[execOp,Instr.makeFunc]) (Cq hm (.func f _ _ _ _ ?_ ?_ ?_ ?_))
   ·simpa using h3.1
   ·simpa using h3.2
   ·simpa using h4.1
   ·simpa using h4.2
 ·-- slice
  rename_i t x lo hi mx
  obtain⟨a,ha,h⟩:=AE h
  obtain⟨l,hl,h⟩:=AE h
  obtain⟨hh,hhi,h⟩:=AE h
  obtain⟨k,hk,h⟩:=AE h
  obtain⟨h1,rfl⟩:=Dd h
  refine⟨Bx.refl _,fun g w ρ _ _ hf hm hr=>?_⟩
  have hopt:∀ (y:Option Operand) (z:Option AV),Jz env y=some z→(∀ q,y=some q→q∈(Op.slice t x lo hi mx).operands)→(y.map ρ).isSome=z.isSome∧∀ a v,z=some a→y.map ρ=some v→Rep g w a v:=by
   intro y z hy hmem
   cases y with
   | none=>simp[Jz] at hy;subst hy;exact⟨rfl,fun a v h=>by cases h⟩
   | some q =>
    simp only[Jz] at hy
    cases hq:BF env q with
    | none=>rw[hq] at hy;cases hy
    | some aq =>
     rw[hq] at hy;injection hy with hy;subst hy
     refine⟨rfl,fun a v h1 h2=>?_⟩
     injection h1 with h1;injection h2 with h2;subst h1 h2
     exact hr q (hmem q rfl) aq hq
  obtain⟨l1,l2⟩:=hopt lo l hl (fun q hq=>by subst hq;simp[Op.operands])
  obtain⟨m1,m2⟩:=hopt hi hh hhi (fun q hq=>by subst hq;simp[Op.operands])
  obtain⟨n1,n2⟩:=hopt mx k hk (fun q hq=>by subst hq;simp[Op.operands])
  obtain⟨v,h3,h4⟩:=AED h1 (hr x (by simp[Op.operands]) a ha) l1 m1 n1 l2 m2 n2
  exact Bg (by simp[execOp,h3]) (Cq hm h4)
 ·-- fieldAddr
  rename_i t x f
  obtain⟨a,ha,h⟩:=AE h
  obtain⟨h1,rfl⟩:=Dd h
  refine⟨Bx.refl _,fun g w ρ _ _ hf hm hr=>?_⟩
  obtain⟨v,h3,h4⟩:=Xr h1 (hr x (by simp[Op.operands]) a ha)
  exact Bg (by simp[execOp,h3]) (Cq hm h4)
 ·-- field
  rename_i t x f
  obtain⟨a,ha,h⟩:=AE h
  obtain⟨h1,rfl⟩:=Dd h
  refine⟨Bx.refl _,fun g w ρ _ _ hf hm hr=>?_⟩
  obtain⟨v,h3,h4⟩:=ACx h1 (hr x (by simp[Op.operands]) a ha)
  exact Bg (by simp[execOp,h3]) (Cq hm h4)
 ·-- indexAddr
  rename_i t x i
  obtain⟨a,ha,h⟩:=AE h
  obtain⟨b,hb,h⟩:=AE h
  obtain⟨h1,rfl⟩:=Dd h
  refine⟨Bx.refl _,fun g w ρ _ _ hf hm hr=>?_⟩
  obtain⟨v,h3,h4⟩:=XM h1 (hr x (by simp[Op.operands]) a ha) (hr i (by simp[Op.operands]) b hb)
  exact Bg (by simp[execOp,h3]) (Cq hm h4)
 ·-- index
  rename_i t x i
  obtain⟨a,ha,h⟩:=AE h
  obtain⟨b,hb,h⟩:=AE h
  obtain⟨h1,rfl⟩:=Dd h
  refine⟨Bx.refl _,fun g w ρ _ _ hf hm hr=>?_⟩
  obtain⟨v,h3,h4⟩:=AEr h1 (hr x (by simp[Op.operands]) a ha) (hr i (by simp[Op.operands]) b hb)
  exact Bg (by simp[execOp,h3]) (Cq hm h4)
 ·-- extract
  rename_i t i
  obtain⟨a,ha,h⟩:=AE h
  split at h
  ·rename_i vs
   obtain⟨h1,rfl⟩:=Dd h
   refine⟨Bx.refl _,fun g w ρ _ _ hf hm hr=>?_⟩
   have hx:=hr t (by simp[Op.operands]) _ ha
   have e:∃ us,ρ t=.tuple us∧Bi g w vs us:=by
    generalize hy:AV.tuple vs=y at hx
    generalize ρ t=v at hx
    cases hx <;> cases hy
    exact⟨_,rfl,⟨by assumption,by assumption⟩⟩
   obtain⟨us,e,hl,hr'⟩:=e
   have hlt:i<us.size:=by rw[hl];exact(List.getElem?_eq_some_iff.1 h1).1
   refine Bg (v:=us[i]) ?_ (Cq hm (hr' i d _ h1 (Array.getElem?_eq_getElem hlt)))
   simp[execOp,Instr.extract,e,Array.getElem?_eq_getElem hlt]
  ·cases h
 ·-- a builtin
  rename_i b as_ ts
  obtain⟨l,hl,h⟩:=AE h
  have hreps:∀ (g:Gh) (w:World) (ρ:Operand→Value),ACQ g w env (Op.call { callee:=.builtin b,args:=as_,argTypes:=ts }).operands ρ→Bi g w l (as_.map ρ):=by
   intro g w ρ hr
   have:=Ki (g:=g) (w:=w) (ρ:=ρ) hl (fun y hy a' ha'=>hr y (by simp[Op.operands,Call.operands];simpa using hy) a' ha')
   rw[← Array.toList_map] at this
   exact this
  unfold FT at h
  split at h
  ·rename_i t tl x hts hw
   obtain⟨h1,rfl⟩:=Dd h
   refine⟨Bx.refl _,fun g w ρ _ _ hf hm hr=>?_⟩
   obtain⟨r1,r2⟩:=hreps g w ρ hr
   obtain⟨v0,hv0⟩:∃ v0,as_.map ρ = #[v0]:=by
    generalize as_.map ρ=vs at r1 r2
    obtain⟨vs⟩:=vs
    match vs,r1 with
    | [v],_=>exact⟨v,rfl⟩
   have hx:Rep g w x v0:=r2 0 x v0 rfl (by rw[hv0];rfl)
   have ht0:ts[0]?=some t:=by rw[← Array.getElem?_toList,hts];rfl
   obtain⟨v,h3,h4⟩:=AHr (P:=P) ty ts ht0 h1 hx
   refine Bg ?_ (Cq hm h4)
   simp[execOp,resolve,invoke,builtin,hv0,h3]
  ·rename_i t xt x y hts hw
   refine⟨?_,fun g w ρ _ _ hf hm hr=>?_⟩
   ·exact Yi h
   ·obtain⟨r1,r2⟩:=hreps g w ρ hr
    obtain⟨v0,v1,hv0⟩:∃ v0 v1,as_.map ρ = #[v0,v1]:=by
     generalize as_.map ρ=vs at r1 r2
     obtain⟨vs⟩:=vs
     match vs,r1 with
     | [v,v'],_=>exact⟨v,v',rfl⟩
    have hx:Rep g w x v0:=r2 0 x v0 rfl (by rw[hv0];rfl)
    have hy:Rep g w y v1:=r2 1 y v1 rfl (by rw[hv0];rfl)
    have hts':ts = #[t,xt]:=by
     obtain⟨ts⟩:=ts
     simpa using hts
    obtain⟨v,w',h3,h4⟩:=ABo (P:=P) ty h hf hm hx hy
    refine Bg ?_ h4
    simp[execOp,resolve,invoke,builtin,hv0,hts',h3]
  ·obtain⟨h1,rfl⟩:=Dd h
   refine⟨Bx.refl _,fun g w ρ _ _ hf hm hr=>?_⟩
   obtain⟨v,h3,h4⟩:=Ud (b:=false) (P:=P) ts ty h1 (hreps g w ρ hr)
   refine Bg ?_ (Cq hm h4)
   simp at h3
   simp[execOp,resolve,invoke,builtin,h3]
  ·obtain⟨h1,rfl⟩:=Dd h
   refine⟨Bx.refl _,fun g w ρ _ _ hf hm hr=>?_⟩
   obtain⟨v,h3,h4⟩:=Ud (b:=true) (P:=P) ts ty h1 (hreps g w ρ hr)
   refine Bg ?_ (Cq hm h4)
   simp at h3
   simp[execOp,resolve,invoke,builtin,h3]
  ·cases h
 ·-- makeMap
  rename_i t
  injection h with h;injection h with h1 h2;subst h1 h2
  refine⟨Ml _,fun g w ρ _ _ hf hm hr=>?_⟩
  obtain⟨v,w',h3,h4⟩:=AB3 (P:=P) (t:=t) hf hm
  exact Bg (by simp[execOp,h3]) h4
 ·-- lookup
  rename_i t x i ok
  obtain⟨p,hp,h⟩:=AE h
  obtain⟨k,hk,h⟩:=AE h
  obtain⟨h1,rfl⟩:=Dd h
  refine⟨Bx.refl _,fun g w ρ _ _ hf hm hr=>?_⟩
  obtain⟨v,h3,h4⟩:=ACi (P:=P) h1 hm (hr x (by simp[Op.operands]) p hp) (hr i (by simp[Op.operands]) k hk)
  exact Bg (by simp[execOp,h3]) (Cq hm h4)
 ·-- mapUpdate
  rename_i t a k x
  obtain⟨p,hp,h⟩:=AE h
  obtain⟨kv,hk,h⟩:=AE h
  obtain⟨v,hv,h⟩:=AE h
  cases hs:GM P m t p kv v with
  | none=>rw[hs] at h;cases h
  | some m1 =>
   rw[hs] at h;injection h with h;injection h with h1 h2;subst h1 h2
   refine⟨QT hs,fun g w ρ _ _ hf hm hr=>?_⟩
   obtain⟨w',h3,h4,h5⟩:=Ua hs hm (hr a (by simp[Op.operands]) p hp) (hr k (by simp[Op.operands]) kv hk) (hr x (by simp[Op.operands]) v hv)
   exact OE (by simp[execOp,h3]) ⟨g,h4,h5,.tuple [] #[] rfl (fun j c v h=>by simp at h)⟩
 ·-- insert
  rename_i t a k x
  obtain⟨p,hp,h⟩:=AE h
  obtain⟨kv,hk,h⟩:=AE h
  obtain⟨v,hv,h⟩:=AE h
  cases hs:GM P m t p kv v with
  | none=>rw[hs] at h;cases h
  | some m1 =>
   rw[hs] at h;injection h with h;injection h with h1 h2;subst h1 h2
   refine⟨QT hs,fun g w ρ _ _ hf hm hr=>?_⟩
   obtain⟨w',h3,h4,h5⟩:=Ua hs hm (hr a (by simp[Op.operands]) p hp) (hr k (by simp[Op.operands]) kv hk) (hr x (by simp[Op.operands]) v hv)
   exact OE (by simp[execOp,h3]) ⟨g,h4,h5,.tuple [] #[] rfl (fun j c v h=>by simp at h)⟩
 ·cases h
end
end
section
def IF (P:Program) (fv:AV) (args:List AV) (m:Mem) (r:AV) (m':Mem):Prop :=
 Bx m m'∧∀ (g:Gh) (w:World) (v:Value) (vs:Array Value),DR g m m'→Aa g m w→Rep g w fv v→Bi g w args vs →
  JU P (do let d ← Deferred.ofValue v vs;invoke d.target d.args) w (Good g m m' w r)
def DN (ops:Array Oper) (env:List AV) (o:Oper):Option Bool :=
 match o.guard with
 | none=>some true
 | some (j,want) =>
  match (ops[j]?).bind (·.dst) with
  | none=>some false
  | some d =>
   match env[d]? with
   | some (.atom (.bool b))=>some (b == want)
   | some (.tuple _)=>some false
   | _=>none
def DS (env:List AV) (dst:Option Tmp) (d:AV):List AV :=
 match dst with
 | some t=>env.set t d
 | none=>env
inductive LT (P:Program) (ops:Array Oper):List Oper→List AV→Mem→List AV→Mem→Prop
 | nil (env:List AV) (m:Mem):LT P ops [] env m env m
 | op {o:Oper} {l:List Oper} {env env':List AV} {m m1 m':Mem} {d:AV} (hw:DN ops env o=some true) (h:AOp P o env m d m1) (k:LT P ops l (DS env o.dst d) m1 env' m'):LT P ops (o :: l) env m env' m'
 | skip {o:Oper} {l:List Oper} {env env':List AV} {m m':Mem} (hw:DN ops env o=some false) (k:LT P ops l (DS env o.dst .undef) m env' m'):LT P ops (o :: l) env m env' m'
section
variable {g:Gh} {m:Mem} {w:World} {P:Program}
theorem JH {as_ bs cs:List AV} {us vs ws:Array Value} (h1:Bi g w as_ us) (h2:Bi g w bs vs):Bi g w (as_++bs) (us++vs):=by
 have l1:=h1.1
 refine⟨by simp[h1.1,h2.1],fun j a v ha hv=>?_⟩
 by_cases hj:j<as_.length
 ·rw[List.getElem?_append_left hj] at ha
  rw[Array.getElem?_append_left (by omega)] at hv
  exact h1.2 j a v ha hv
 ·rw[List.getElem?_append_right (by omega)] at ha
  rw[Array.getElem?_append_right (by omega)] at hv
  rw[l1] at hv
  exact h2.2 _ a v ha hv
theorem Rep.func_inv {f:FuncId} {first cap:List AV} {v:Value} (h:Rep g w (.func f first cap) v):∃ fs vs,v=.func (.func f) fs vs∧Bi g w first fs∧Bi g w cap vs:=by
 generalize hx:AV.func f first cap=x at h
 cases h <;> cases hx
 exact⟨_,_,rfl,⟨by assumption,by assumption⟩,⟨by assumption,by assumption⟩⟩
theorem IF.of_func {f:FuncId} {first cap args:List AV} {r:AV} {m':Mem} (h:EB P f (first++args++cap) m r m'):IF P (.func f first cap) args m r m':=by
 obtain⟨⟨fn,hfn,hname,hbody⟩,hmono,h⟩:=h
 refine⟨hmono,fun g w v vs hf hm hv ha=>?_⟩
 obtain⟨fs,cs,rfl,h1,h2⟩:=hv.func_inv
 have h3:=h g w (fs++vs++cs) hf hm (JH (cs:=[]) (ws:=#[]) (JH (cs:=[]) (ws:=#[]) h1 ha) h2)
 have hb:fn.body.isNone=false:=by cases hb:fn.body <;> simp_all
 have hrun:(do let d ← Deferred.ofValue (.func (.func f) fs cs) vs;invoke d.target d.args:Sem Next).run P w=.ok (.enter f (fs++vs++cs)) w:=by
  have hn' : ¬ fn.name = "runtime.NumGoroutine" := by intro e; rw [e] at hname; simp at hname
  have hb':¬ fn.body=none:=by intro e;rw[e] at hbody;cases hbody
  simp[Deferred.ofValue,invoke,callFunc,hfn,hn',hb']
 unfold JU
 rw[hrun]
 refine h3.mono ?_
 rintro e w' ⟨v,g',rfl,hs,hm',hr⟩
 exact⟨v,rfl,g',hs,hm',hr⟩
theorem AOp.call {o:Oper} {c:Call} {f:Operand} {env as_:List AV} {fv r:AV} {m':Mem} (ho:o.op=.call c) (hc:c.callee=.value f) (hf:BF env f=some fv) (ha:EQ env c.args.toList=some as_) (h:IF P fv (as_.map AV.strip) m r m'):AOp P o env m r m':=by
 obtain⟨dst,op,ty,pos,after,guard⟩:=o
 dsimp only at ho
 subst ho
 obtain⟨callee,args,ts⟩:=c
 dsimp only at hc ha
 subst hc
 refine⟨h.1,fun g w ρ _ _ hfr hm hr=>?_⟩
 have h1:=hr f (by simp[Op.operands,Call.operands]) fv hf
 have h2:=(Ki (g:=g) (w:=w) (ρ:=ρ) ha (fun y hy a' ha'=>hr y (by simp[Op.operands,Call.operands];exact .inr (by simpa using hy)) a' ha')).strip
 have h3:=h.2 g w (ρ f) (args.map ρ) hfr hm h1 (by
  have e:(args.toList.map ρ).toArray=args.map ρ:=by rw[← Array.toList_map]
  rw[e] at h2;exact h2)
 exact h3
theorem LT.mono {ops:Array Oper} {l:List Oper} {env env':List AV} {m':Mem} (h:LT P ops l env m env' m'):Bx m m':=by
 induction h with
 | nil=>exact Bx.refl _
 | op hw h k ih=>exact h.1.trans ih
 | skip hw k ih=>exact ih
theorem ZK {env:List AV} {a:Act} {dst:Option Tmp} {d:AV} {v:Value} (h:Bi g w env a.tmps) (hd:Rep g w d v):Bi g w (DS env dst d) (a.put dst v).tmps:=by
 cases dst with
 | none=>exact h
 | some t =>
  refine⟨by simp[DS,Act.put,h.1],fun j x u hx hu=>?_⟩
  simp only[DS,List.getElem?_set] at hx
  simp only[Act.put,Array.getElem?_setIfInBounds] at hu
  have hl:=h.1
  by_cases e:t=j
  ·subst e
   simp only[if_true] at hx hu
   split at hx
   ·split at hu
    ·injection hx with hx;injection hu with hu;subst hx hu;exact hd
    ·cases hu
   ·cases hx
  ·rw[if_neg e] at hx hu
   exact h.2 j x u hx hu
theorem AIQ:(tabs.all fun q=>!q.2.isEmpty&&q.2.all Nl)=true:=by rfl
theorem Wj {k:Nat} {a:AV} (ht:Mn g w) (h:Kl k=some a):Rep g w a (.pointer (some ⟨k,0,none⟩)):=by
 unfold Kl at h
 cases hq:tabs.find? fun q=>q.1 == k with
 | none=>rw[hq] at h;cases h
 | some q =>
  rw[hq] at h;injection h with h;subst h
  have hm:=List.mem_of_find?_eq_some hq
  have hk:q.1=k:=by simpa using List.find?_some hq
  subst hk
  have h0:=List.all_eq_true.1 AIQ q hm
  simp only[Bool.and_eq_true,Bool.not_eq_true',List.isEmpty_eq_false_iff,List.all_eq_true] at h0
  obtain⟨⟨vs,t,h1,h2⟩,h3,h4⟩:=ht q hm
  refine .eptr (.agg (q.2.map .atom)) 0 q.1 0 (fun j=>vs.toList.getD j default) ⟨h3,fun id hid=>absurd hid (h4 id)⟩ (fun j hj=>?_) (fun j c hc=>?_) (fun c hc=>?_) (fun e=>h0.1 (by simpa [AV.cells] using e))
  ·simp only[AV.cells,List.length_map,← h2] at hj
   have hjs:j<vs.size:=by simpa using hj
   simp only[World.cell?,Nat.zero_add,h1,List.getD_eq_getElem?_getD,Array.getElem?_toList,Array.getElem?_eq_getElem hjs,Option.getD_some]
   rfl
  ·simp only[AV.cells,List.getElem?_map,← h2] at hc
   cases hv:vs.toList[j]? with
   | none=>rw[hv] at hc;cases hc
   | some v =>
    rw[hv] at hc;injection hc with hc;subst hc
    have e:vs.toList.getD j default=v:=by rw[List.getD_eq_getElem?_getD,hv];rfl
    simp only[e]
    exact .atom v (h0.2 v (h2 ▸ List.mem_of_getElem? hv))
  ·simp only[AV.cells,List.mem_map] at hc
   obtain⟨v,_,rfl⟩:=hc;rfl
theorem AAo {env:List AV} {a:Act} (h:Bi g w env a.tmps) (ht:Mn g w) (l:Array Operand):ACQ g w env l a.eval:=by
 intro x _ av hx
 cases x with
 | tmp t =>
  have hlt:t<env.length:=(List.getElem?_eq_some_iff.1 hx).1
  have hlt2:t<a.tmps.size:=by rw[h.1];exact hlt
  have hv:a.tmps[t]?=some a.tmps[t]:=Array.getElem?_eq_getElem (by rw[h.1];exact hlt)
  have e:a.eval (.tmp t)=a.tmps[t]'(by rw[h.1];exact hlt):=by
   show a.tmps.getD t Go.undef=_
   rw[Array.getD_eq_getD_getElem?,hv,Option.getD_some]
  rw[e]
  exact h.2 t av _ hx hv
 | const v=>exact NQ hx
 | func f =>
  injection hx with hx;subst hx
  exact .func f [] [] #[] #[] rfl (fun j c v h=>by simp at h) rfl (fun j c v h=>by simp at h)
 | global k=>exact Wj ht hx
theorem We {ops:Array Oper} {env:List AV} {a:Act} {o:Oper} {b:Bool} (h:Bi g w env a.tmps) (hw:DN ops env o=some b):Region.wanted o (yielded ops a.tmps)=b:=by
 unfold DN at hw
 unfold Region.wanted
 split at hw
 ·rename_i hg;injection hw with hw;subst hw;simp[hg]
 ·rename_i j want hg
  simp only[hg,yielded]
  split at hw
  ·rename_i hd
   injection hw with hw;subst hw
   rw[hd];rfl
  ·rename_i d hd
   rw[hd]
   simp only[Option.bind_some]
   split at hw
   ·rename_i b' he
    injection hw with hw;subst hw
    have hlt:d<env.length:=(List.getElem?_eq_some_iff.1 he).1
    have hlt2:d<a.tmps.size:=by rw[h.1];exact hlt
    have hv:a.tmps[d]?=some a.tmps[d]:=Array.getElem?_eq_getElem (by rw[h.1];exact hlt)
    have:=(h.2 d _ _ he hv).atom_inv
    rw[hv,this]
    cases b' <;> cases want <;> rfl
   ·rename_i vs he
    injection hw with hw;subst hw
    have hlt:d<env.length:=(List.getElem?_eq_some_iff.1 he).1
    have hlt2:d<a.tmps.size:=by rw[h.1];exact hlt
    have hv:a.tmps[d]?=some a.tmps[d]:=Array.getElem?_eq_getElem (by rw[h.1];exact hlt)
    have h2:=h.2 d _ _ he hv
    rw[hv]
    generalize hx:AV.tuple vs=x at h2
    generalize hy:a.tmps[d]'(by rw[h.1];exact hlt)=y at h2
    cases h2 <;> cases hx
    rfl
   ·cases hw
theorem Vf {o:Oper} {ρ:Operand→Value} {post:Value→World→Prop} (h:JU P (execOp ρ o) w post):∀ c,o.op≠.defer c:=by
 intro c hc
 unfold JU at h
 have:(execOp ρ o).run P w=((resolve ρ c o.type).run P w).andThen fun d w'=>.ok (.defer d) w':=by
  unfold execOp
  rw[hc]
  simp only[Sem.run_bind,Sem.run_pure]
 rw[this] at h
 cases hr:(resolve ρ c o.type).run P w with
 | ok d w'=>rw[hr] at h;exact h
 | halt e w'=>rw[hr] at h;exact h
theorem IQ {o:Oper} {ro:Option Nat} {a:Act} {post:Value→World→Prop} {next:Act→World→Prop} {Q:Exit→Act→World→Prop} (h:JU P (execOp a.eval o) w post) (hn:∀ v w',post v w'→next (a.put o.dst v) w') :
  o.wpIn (Fw ro) 0 P a w next Q:=by
 refine⟨fun f _=>trivial,?_⟩
 have hs:o.semAt (Fw ro).round a.eval=execOp a.eval o:=Oper.semAt_eq _ _ _ (Vf h)
 rw[hs]
 unfold JU at h
 split at h
 ·rename_i v w' hr
  rw[hr];exact hn v w' h
 ·rename_i w' hr
  rw[hr];exact hn _ w' h
 ·rename_i f args w' hr
  rw[hr]
  refine⟨(fun h=>by cases h),?_⟩
  have h2:CallsIn (Fw ro) 0 P f args w' fun e w''=>∃ v,e=.returned v∧post v w'':=h
  refine h2.mono ?_
  rintro e w'' ⟨v,rfl,hp⟩
  exact hn v w'' hp
 ·rename_i l f tmps assign body w' hr
  rw[hr]
  refine⟨(fun h=>by cases h),?_⟩
  have h2:RoundIn (Fw ro) 0 P l f tmps assign body w' fun e w''=>∃ v,e=.returned v∧post v w'':=h
  refine h2.mono ?_
  rintro e w'' ⟨v,rfl,hp⟩
  exact hn v w'' hp
 ·exact h.elim
theorem MF {F:Fence} {n:Nat} {ops:Array Oper} {Q Q':Exit→Act→World→Prop} (hq:∀ e a w,Q e a w→Q' e a w):∀ {l:List Nat} {a:Act} {w:World},wpOpsIn F n P ops Q l a w→wpOpsIn F n P ops Q' l a w:=by
 intro l
 induction l with
 | nil=>intro a w h;exact hq _ _ _ h
 | cons i l ih =>
  intro a w h
  simp only[wpOpsIn] at h ⊢
  split
  ·rename_i ho;rw[ho] at h;exact ih h
  ·rename_i o ho
   rw[ho] at h
   dsimp only at h
   split
   ·rename_i hw
    rw[if_pos hw] at h
    refine⟨h.1,?_⟩
    have h2:=h.2
    unfold Oper.uponIn at h2 ⊢
    split at h2
    ·exact ih h2
    ·exact ih h2
    ·exact ih h2
    ·skip
     refine⟨h2.1,h2.2.mono ?_⟩
     intro e w' he
     cases e with
     | returned v=>exact ih he
     | panicked c=>exact hq _ _ _ he
     | outgrown=>obtain⟨a0,w0,hh⟩:=he;exact⟨a0,w0,hq _ _ _ hh⟩
    ·skip
     refine⟨h2.1,h2.2.mono ?_⟩
     intro v w' he
     exact ih he
    ·skip
     refine⟨h2.1,h2.2.mono ?_⟩
     intro e w' he
     cases e with
     | returned v=>exact ih he
     | panicked c=>exact hq _ _ _ he
     | outgrown=>obtain⟨a0,w0,hh⟩:=he;exact⟨a0,w0,hq _ _ _ hh⟩
    ·exact hq _ _ _ h2
    ·exact h2.elim
   ·rename_i hw
    rw[if_neg hw] at h
    exact⟨h.1,ih h.2⟩
theorem LT.walk {ops:Array Oper} {l:List Oper} {env env':List AV} {m':Mem} (h:LT P ops l env m env' m'):∀ (k:Nat),l=ops.toList.drop k→∀ (ro:Option Nat) (g:Gh) (w:World) (a:Act),DR g m m'→Aa g m w→Bi g w env a.tmps →
  wpOpsIn (Fw ro) 0 P ops (fun e' a' w'=>e'=.normal∧a'.defers=a.defers∧∃ g',As g m g' m' w w'∧Aa g' m' w'∧Bi g' w' env' a'.tmps) (List.range' k l.length) a w:=by
 induction h with
 | nil env m=>intro k hk ro g w a hf hm he;exact⟨rfl,rfl,g,As.refl g m w,hm,he⟩
 | @op o l env env' m m1 m' d hw h hk ih =>
  intro k hl ro g w a hf hm he
  have hk1:ops[k]?=some o:=by
   rw[← Array.getElem?_toList]
   have:=congrArg (·[0]?) hl
   simp at this
   rw[this];simp
  have hl2:l=ops.toList.drop (k+1):=by
   have:=congrArg List.tail hl
   simpa using this
  simp only[List.length_cons,List.range'_succ,wpOpsIn,hk1]
  rw[if_pos (We he hw)]
  refine IQ (h.2 g w a.eval (fun _=>rfl) (fun _=>rfl) (hf.left hk.mono) hm (AAo he hm.tab _)) ?_
  rintro v w' ⟨g1,hs1,hm1,hr1⟩
  have he1:Bi g1 w' (DS env o.dst d) (a.put o.dst v).tmps:=ZK (he.step hm hs1) hr1
  refine MF ?_ (ih (k+1) hl2 ro g1 w' (a.put o.dst v) (hf.right hs1) hm1 he1)
  rintro e a2 w2 ⟨rfl,hd2,g2,hs2,hm2,he2⟩
  refine⟨rfl,?_,g2,hs1.trans hs2 hm,hm2,he2⟩
  rw[hd2];cases o.dst <;> rfl
 | @skip o l env env' m m' hw hk ih =>
  intro k hl ro g w a hf hm he
  have hk1:ops[k]?=some o:=by
   rw[← Array.getElem?_toList]
   have:=congrArg (·[0]?) hl
   simp at this
   rw[this];simp
  have hl2:l=ops.toList.drop (k+1):=by
   have:=congrArg List.tail hl
   simpa using this
  simp only[List.length_cons,List.range'_succ,wpOpsIn,hk1]
  have hwf:Region.wanted o (yielded ops a.tmps)=false:=We he hw
  rw[if_neg (by rw[hwf];simp)]
  refine⟨fun f _=>trivial,?_⟩
  have he1:Bi g w (DS env o.dst .undef) (a.put o.dst Go.undef).tmps:=ZK he (.tuple [] #[] rfl (fun j c v h=>by simp at h))
  refine MF ?_ (ih (k+1) hl2 ro g w (a.put o.dst Go.undef) hf hm he1)
  rintro e a2 w2 ⟨rfl,hd2,hq⟩
  refine⟨rfl,?_,hq⟩
  rw[hd2];cases o.dst <;> rfl
theorem Bu.region {lo:Option Nat} {id:Nat} {ops:Array Oper} {env env':List AV} {m':Mem} (h:LT P ops ops.toList env m env' m'):Bu P lo (.region id ops false) env m .normal env' m':=by
 refine⟨h.mono,fun ro g w a hro hf hm he=>wpIn_region ?_⟩
 have:=h.walk 0 (by simp) ro g w a hf hm he
 rw[List.range_eq_range']
 simp only[Array.length_toList] at this
 refine MF ?_ this
 rintro e a2 w2 ⟨rfl,hd2,g2,hs2,hm2,he2⟩
 exact⟨rfl,g2,[],by simpa using hd2,.nil,hs2,hm2,he2⟩
end
end
end Go.Proofs.YtjnnhjgjecgomaaGreat.G
