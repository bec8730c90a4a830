/-
One operation on abstract values, and that the machine does the same.
-/
import Derived.Test.YtakmilmckdllfaaG4
set_option linter.unusedVariables false
set_option linter.unusedSimpArgs false
namespace Go.Proofs.Ytakmilmckdllfaa.G

def notTuple : AV → Bool
  | .tuple _ => false
  | _ => true
def aeval (env : List AV) : Operand → Option AV
  | .tmp t => env[t]?
  | .const v => constAV v
  | .func f => some (.func f [] [])
  | .global _ => none

def aintop (op : BinOp) (k : IntKind) (a b : Int) : Option AV :=
  match op with
  | .add => some (.atom (.int k (k.wrap (a + b))))
  | .sub => some (.atom (.int k (k.wrap (a - b))))
  | .mul => some (.atom (.int k (k.wrap (a * b))))
  | .quo => if b = 0 then none else some (.atom (.int k (k.wrap (a.tdiv b))))
  | .rem => if b = 0 then none else some (.atom (.int k (a.tmod b)))
  | .and => some (.atom (.int k (k.wrap (BitVec.ofInt k.bits a &&& BitVec.ofInt k.bits b).toNat)))
  | .or => some (.atom (.int k (k.wrap (BitVec.ofInt k.bits a ||| BitVec.ofInt k.bits b).toNat)))
  | .xor => some (.atom (.int k (k.wrap (BitVec.ofInt k.bits a ^^^ BitVec.ofInt k.bits b).toNat)))
  | .andNot => some (.atom (.int k (k.wrap (BitVec.ofInt k.bits a &&& ~~~BitVec.ofInt k.bits b).toNat)))
  | .eql => some (.bool (a == b))
  | .neq => some (.bool (a != b))
  | .lss => some (.bool (decide (a < b)))
  | .leq => some (.bool (decide (a ≤ b)))
  | .gtr => some (.bool (decide (a > b)))
  | .geq => some (.bool (decide (a ≥ b)))
  | _ => none

def ashift (op : BinOp) (k : IntKind) (a b : Int) : Option AV :=
  if b < 0 then none else
  match op with
  | .shl => some (.atom (.int k (k.wrap (a * 2 ^ (min b.toNat k.bits)))))
  | .shr => some (.atom (.int k (a.fdiv (2 ^ (min b.toNat k.bits)))))
  | _ => none

/-- Fields of a struct that can be compared: type, first cell. -/
def eqFields (P : Program) (t : TypeId) : Option (List (TypeId × Nat)) :=
  match P.underlying t with
  | some (.struct fs) => if (fs.all fun f => f.name != "_") && !P.stoodInHeld t then some (fs.toList.map fun f => (f.type, f.offset)) else none
  | _ => none
def aeqs (P : Program) (cmp : TypeId → AV → AV → Option Bool) (xs ys : List AV) : List (TypeId × Nat) → Option Bool
  | [] => some true
  | (t, o) :: l =>
    match subAV P t xs o, subAV P t ys o with
    | some a, some b =>
      match cmp t a b, aeqs P cmp xs ys l with
      | some p, some q => some (p && q)
      | _, _ => none
    | _, _ => none
/-- Are two values of a type the same? -/
def aeq (P : Program) : Nat → TypeId → AV → AV → Option Bool
  | 0, _, _, _ => none
  | d + 1, t, .agg xs, .agg ys =>
    match eqFields P t with
    | some l => aeqs P (aeq P d) xs ys l
    | none => match arrT P t with
      | some (n, e) => match sizeT P e with
        | some s => aeqs P (aeq P d) xs ys ((List.range' 0 n).map fun i => (e, i * s))
        | none => none
      | none => none
  | _ + 1, t, .atom (.int k a), .atom (.int k' b) => match P.underlying t with
    | some (.int _) => if k = k' then some (a == b) else none
    | _ => none
  | _ + 1, t, .atom (.bool a), .atom (.bool b) => match P.underlying t with
    | some .bool => some (a == b)
    | _ => none
  | _ + 1, t, .atom (.string a), .atom (.string b) => match P.underlying t with
    | some .string => some (a == b)
    | _ => none
  | _ + 1, _, _, _ => none
def guardT (P : Program) (t : TypeId) : Bool := P.eqGuardType P.depth t

def abin (P : Program) (op : BinOp) (xt : TypeId) (x y : AV) : Option AV :=
  match x, y with
  | .atom (.int k a), .atom (.int k' b) =>
    match op with
    | .shl => ashift .shl k a b
    | .shr => ashift .shr k a b
    | op => if k = k' then aintop op k a b else none
  | .atom (.bool a), .atom (.bool b) =>
    match P.underlying xt, op with
    | some .bool, .eql => some (.bool (a == b))
    | some .bool, .neq => some (.bool (!(a == b)))
    | _, _ => none
  | .agg xs, .agg ys =>
    match op with
    | .eql => if guardT P xt = false then (aeq P 9 xt (.agg xs) (.agg ys)).map AV.bool else none
    | .neq => if guardT P xt = false then (aeq P 9 xt (.agg xs) (.agg ys)).map fun b => AV.bool (!b) else none
    | _ => none
  | _, _ => none

def aun (op : UnOp) (x : AV) : Option AV :=
  match op, x with
  | .neg, .atom (.int k n) => aintop .sub k 0 n
  | .xor, .atom (.int k n) => aintop .xor k (if k.signed then -1 else k.max) n
  | .not, .atom (.bool b) => some (.bool !b)
  | _, _ => none

/-- The places of a struct's fields: first cell, cells. -/
def placesT (P : Program) (t : TypeId) : Option (List (Nat × Nat)) :=
  match P.underlying t with
  | some (.struct fs) => fs.toList.mapM fun f => (sizeT P f.type).map fun n => (f.offset, n)
  | _ => none

def afill (places : Nat → Option (Nat × Nat)) (cells : List AV) : List (Nat × AV) → Option (List AV)
  | [] => some cells
  | (i, v) :: rest =>
    match places i with
    | none => none
    | some (off, size) => if v.cells.length = size ∧ off + size ≤ cells.length ∧ notTuple v = true then afill places (splice cells off (v.cells.map AV.strip1)) rest else none

/-- A struct's, an array's value out of parts. -/
def abuild (P : Program) (t : TypeId) (parts : List (Nat × AV)) : Option AV :=
  match zeroT P t, placesT P t, arrT P t with
  | some cs, some ps, _ => (afill (ps[·]?) cs parts).map .agg
  | some cs, none, some (_, e) => match sizeT P e with
    | some s => (afill (fun i => some (i * s, s)) cs parts).map .agg
    | none => none
  | _, _, _ => none

/-- A slice of given elements. -/
def abuildSlice (P : Program) (t : TypeId) (len : Nat) (parts : List (Nat × AV)) : Option AV :=
  match elemT P t with
  | some e => match sizeT P e with
    | some s => if 0 < s ∧ len * s ≤ 2 ^ 24 ∧ (zeroT P e).map List.length = some s ∧ parts.map (·.1) = List.range len ∧ (∀ p ∈ parts, p.2.cells.length = s ∧ notTuple p.2 = true) then some (.slice .full (parts.map fun p => p.2.strip)) else none
    | none => none
  | none => none

def ints (l : List AV) : Option (List Int) := l.mapM fun | .atom (.int _ n) => some n | _ => none

/-- A slice's index, an array's. -/
def aindexAddr (P : Program) (t : TypeId) (x i : AV) : Option AV :=
  match i, x with
  | .atom (.int _ n), .slice _ es =>
    match elemT P t with
    | some e => match sizeT P e with
      | some s => if 0 ≤ n then match es[n.toNat]? with
          | some a => if a.cells.length = s ∧ a.cells ≠ [] then some (.eptr a 0) else none
          | none => none
        else none
      | none => none
    | none => none
  | .atom (.int _ n), .ptr l off =>
    match arrT P t with
    | some (len, e) => match sizeT P e with
      | some s => if 0 ≤ n ∧ n < len then some (.ptr l (off + n.toNat * s)) else none
      | none => none
    | none => none
  | .atom (.int _ n), .eptr a off =>
    match arrT P t with
    | some (len, e) => match sizeT P e with
      | some s => if 0 ≤ n ∧ n < len then some (.eptr a (off + n.toNat * s)) else none
      | none => none
    | none => none
  | .atom (.int _ n), .vec id off len sz _ =>
    match elemT P t with
    | some e => match sizeT P e with
      | some s => if sz = s ∧ 0 ≤ n ∧ n < len then some (.vptr id (off + n.toNat * s)) else none
      | none => none
    | none => none
  | .atom (.int _ n), .vptr id off =>
    match arrT P t with
    | some (len, e) => match sizeT P e with
      | some s => if 0 ≤ n ∧ n < len then some (.vptr id (off + n.toNat * s)) else none
      | none => none
    | none => none
  | _, _ => none

def aindex (P : Program) (t : TypeId) (x i : AV) : Option AV :=
  match i, x, arrT P t with
  | .atom (.int _ n), .agg cs, some (len, e) =>
    match sizeT P e with
    | some s => if 0 ≤ n ∧ n < len then subAV P e cs (n.toNat * s) else none
    | none => none
  | _, _, _ => none

def afieldAddr (P : Program) (t : TypeId) (x : AV) (f : Nat) : Option AV :=
  match fieldT P t f with
  | some (ft, o) =>
    match sizeT P ft with
    | some (_ + 1) =>
      match x with
      | .ptr l off => some (.ptr l (off + o))
      | .eptr a off => some (.eptr a (off + o))
      | .vptr id off => some (.vptr id (off + o))
      | _ => none
    | _ => none
  | none => none
def afield (P : Program) (t : TypeId) (x : AV) (f : Nat) : Option AV :=
  match fieldT P t f, x with
  | some (ft, o), .agg cs => subAV P ft cs o
  | _, _ => none

def aload (P : Program) (m : Mem) (t : TypeId) (x : AV) : Option AV :=
  match x with
  | .ptr l off => match m.boxes[l]? with
    | some (.cells cs) => subAV P t cs off
    | _ => none
  | .eptr a off => subAV P t a.cells off
  | .vptr id off => match m.rows[id]? with
    | some (some (_, cs)) => subAV P t cs off
    | _ => none
  | _ => none
def astore (P : Program) (m : Mem) (t : TypeId) (x y : AV) : Option Mem :=
  match x with
  | .ptr l off => match m.boxes[l]?, sizeT P t with
    | some (.cells cs), some n => if y.cells.length = n ∧ off + n ≤ cs.length ∧ notTuple y = true then some (m.set l (.cells (splice cs off y.cells))) else none
    | _, _ => none
  | .vptr id off => match m.rows[id]?, sizeT P t with
    | some (some (0, cs)), some n => if y.cells.length = n ∧ off + n ≤ cs.length ∧ notTuple y = true then some (m.setRow id 0 (splice cs off y.cells)) else none
    | _, _ => none
  | _ => none

def abound (x : Option AV) (d : Nat) : Option Int :=
  match x with
  | none => some d
  | some (.atom (.int _ n)) => some n
  | some _ => none
/-- A part of a slice. -/
def aslice (P : Program) (t : TypeId) (x : AV) (lo hi mx : Option AV) : Option AV :=
  match x, elemT P t with
  | .slice _ es, some e =>
    match sizeT P e, abound lo 0, abound hi es.length, abound mx es.length with
    | some s, some l, some h, some k =>
      if 0 ≤ l ∧ l ≤ h ∧ h ≤ k ∧ k ≤ es.length ∧ (mx.isSome = true → hi.isSome = true) ∧ (∀ e ∈ es, e.cells.length = s) ∧ 0 < s then
        some (.slice (if mx.isSome ∧ h = k then .full else .foreign) ((es.take h.toNat).drop l.toNat)) else none
    | _, _, _, _ => none
  | .vec id off len sz k, some e =>
    match sizeT P e, abound lo 0, abound hi len, abound mx len with
    | some s, some l, some h, some c =>
      if 0 ≤ l ∧ l ≤ h ∧ h ≤ c ∧ c ≤ len ∧ (mx.isSome = true → hi.isSome = true) ∧ s = sz then
        if l = h ∧ 0 < l then some (.slice (if mx.isSome ∧ h = c then .full else .foreign) []) else
        some (.vec id (off + l.toNat * s) (h - l).toNat sz (if mx.isSome then (if h = c then .full else .any) else if k = .opn then .opn else if h = len then k else .any)) else none
    | _, _, _, _ => none
  | _, _ => none

def alen (P : Program) (t : TypeId) (x : AV) : Option AV :=
  match x, P.underlying t with
  | .slice _ es, some (.slice _) => some (.i64 es.length)
  | .vec _ _ len _ _, some (.slice _) => some (.i64 len)
  | .atom (.string s), some .string => some (.i64 s.size)
  | _, some (.array n _) => some (.i64 n)
  | _, _ => none

/-- How many cells a type's zero value has. -/
def zsizeT (P : Program) (t : TypeId) : Option Nat := ((P.info? t).bind (·.zero)).map (·.cells.size)
def roomBytes' : Nat := 140737488355328
/-- All cells of a list of elements. -/
def flatC (es : List AV) : List AV := es.flatMap AV.cells
/-- A slice's cells, wherever they are. -/
def cellsIn (m : Mem) (s : Nat) : AV → Option (List AV × Nat)
  | .slice _ es => if ∀ e ∈ es, e.cells.length = s then some (flatC es, es.length) else none
  | .vec id off len sz _ => match m.rows[id]? with
    | some (some (_, cs)) => if sz = s ∧ off + len * sz ≤ cs.length then some ((cs.drop off).take (len * sz), len) else none
    | _ => none
  | _ => none
/-- An append to a row that is turned in place. -/
def avec (m : Mem) (s : Nat) (x : AV) (xc : List AV) (nx : Nat) (yc : List AV) (ny : Nat) : Option (AV × Mem) :=
  match x with
  | .slice .full _ => some (.vec m.rows.length 0 (nx + ny) s .opn, m.pushRow 0 (xc ++ yc))
  | .vec _ _ _ _ .full => some (.vec m.rows.length 0 (nx + ny) s .opn, m.pushRow 0 (xc ++ yc))
  | .vec id off _ _ .opn => match m.rows[id]? with
    | some (some (0, cs)) =>
      if off + (nx + ny) * s ≤ cs.length then some (.vec id off (nx + ny) s .opn, m.setRow id 0 (splice cs (off + nx * s) yc))
      else if off = 0 then some (.vec m.rows.length 0 (nx + ny) s .opn, (m.retire id).pushRow 0 (xc ++ yc)) else none
    | _ => none
  | _ => none
def aappendV (P : Program) (m : Mem) (t xt : TypeId) (x y : AV) : Option (AV × Mem) :=
  match elemT P t, elemT P xt with
  | some e, some _ =>
    match sizeT P e, bytesT P e with
    | some s, some b =>
      match cellsIn m s x, cellsIn m s y with
      | some (xc, nx), some (yc, ny) => if 0 < s ∧ 0 < b ∧ zsizeT P e = some s ∧ (nx + ny) * b ≤ roomBytes' then (if ny = 0 then some (x, m) else avec m s x xc nx yc ny) else none
      | _, _ => none
    | _, _ => none
  | _, _ => none
/-- How many cells of a row stay. -/
def hwOf (m : Mem) (id : Nat) : Option Nat :=
  match m.rows[id]? with
  | some (some (n, _)) => some n
  | _ => none
theorem hwOf_some {m : Mem} {id n : Nat} (h : hwOf m id = some n) : ∃ cs, m.rows[id]? = some (some (n, cs)) := by
  unfold hwOf at h
  split at h
  · rename_i n' cs he; injection h with h; subst h; exact ⟨cs, he⟩
  · cases h
/-- What may be appended to. -/
def aappendS (P : Program) (m : Mem) (t xt : TypeId) (x y : AV) : Option (AV × Mem) :=
  match x, y, elemT P t, elemT P xt with
  | .slice own es, .slice _ ys, some e, some _ =>
    match sizeT P e, bytesT P e with
    | some s, some b =>
      if 0 < s ∧ 0 < b ∧ zsizeT P e = some s ∧ (es.length + ys.length) * b ≤ roomBytes' ∧ (∀ e ∈ es, e.cells.length = s) ∧ (∀ e ∈ ys, e.cells.length = s) then
        if ys = [] then some (.slice own es, m) else
        match own with
        | .foreign => none
        | .full => some (.slice (.row m.rows.length) (es ++ ys), m.pushRow ((es.length + ys.length) * s))
        | .row id => if hwOf m id = some (es.length * s) ∧ es ≠ [] then some (.slice (.row m.rows.length) (es ++ ys), (m.retire id).pushRow ((es.length + ys.length) * s)) else none
      else none
    | _, _ => none
  | _, _, _, _ => none
def aappend (P : Program) (m : Mem) (t xt : TypeId) (x y : AV) : Option (AV × Mem) :=
  match x with
  | .vec .. => aappendV P m t xt x y
  | .slice .full _ => match elemT P t with
    | some e => if m.mode e = true then aappendV P m t xt x y else aappendS P m t xt x y
    | none => none
  | _ => aappendS P m t xt x y

def amm (isMax : Bool) (x y : AV) : Option AV :=
  match x, y with
  | .atom (.int k a), .atom (.int k' b) => if k = k' then some (.atom (.int k (if isMax then (if b > a then b else a) else (if b < a then b else a)))) else none
  | _, _ => none
def aminmax (isMax : Bool) : List AV → Option AV
  | [] => none
  | x :: rest => rest.foldlM (amm isMax) x

def aevals (env : List AV) (l : List Operand) : Option (List AV) := l.mapM (aeval env)
def aparts (env : List AV) (l : List (Nat × Operand)) : Option (List (Nat × AV)) := l.mapM fun p => (aeval env p.2).map (p.1, ·)
def aopt (env : List AV) : Option Operand → Option (Option AV)
  | none => some none
  | some x => (aeval env x).map some

def abuiltin (P : Program) (b : Builtin) (ts : List TypeId) (as : List AV) (m : Mem) : Option (AV × Mem) :=
  match b, ts, as with
  | .len, t :: _, [x] => (alen P t x).map (·, m)
  | .append, [t, xt], [x, y] => aappend P m t xt x y
  | .min, _, as => (aminmax false as).map (·, m)
  | .max, _, as => (aminmax true as).map (·, m)
  | _, _, _ => none

/-- One operation that enters no function. -/
def aop (P : Program) (op : Op) (env : List AV) (m : Mem) : Option (AV × Mem) :=
  match op with
  | .move x => (aeval env x).map (·, m)
  | .assign x => (aeval env x).map (·, m)
  | .pick c a b => match aeval env c with
    | some (.atom (.bool t)) => (aeval env (if t then a else b)).map (·, m)
    | _ => none
  | .alloc t => (zeroT P t).map fun cs => (.ptr m.boxes.length 0, m.push (.cells cs))
  | .box t x => (aeval env x).bind fun v => if notTuple v = true then some (.ptr m.boxes.length 0, m.push (.cells v.cells)) else none
  | .build t ps => (aparts env ps.toList).bind fun l => (abuild P t l).map (·, m)
  | .buildSlice t len ps => (aparts env ps.toList).bind fun l => (abuildSlice P t len l).map (·, m)
  | .load t a => (aeval env a).bind fun p => (aload P m t p).map (·, m)
  | .store t a x => (aeval env a).bind fun p => (aeval env x).bind fun v => (astore P m t p v).map (AV.undef, ·)
  | .nilCheck x => (aeval env x).bind fun v => match v with
    | .ptr l o => some (.ptr l o, m)
    | .eptr e o => some (.eptr e o, m)
    | .vptr e o => some (.vptr e o, m)
    | .func f a b => some (.func f a b, m)
    | _ => none
  | .binOp op t x y _ => (aeval env x).bind fun a => (aeval env y).bind fun b => (abin P op t a b).map (·, m)
  | .unOp op _ x => (aeval env x).bind fun a => (aun op a).map (·, m)
  | .convert s t x => (aeval env x).bind fun a => match a, P.underlying s, P.underlying t with
    | .atom (.int _ n), some (.int _), some (.int k) => some (.atom (.int k (k.wrap n)), m)
    | _, _, _ => none
  | .makeFunc (.func f) first cap => (aevals env first.toList).bind fun a => (aevals env cap.toList).map fun b => (.func f (a.map AV.strip) b, m)
  | .slice t x lo hi mx => (aeval env x).bind fun v => (aopt env lo).bind fun l => (aopt env hi).bind fun h => (aopt env mx).bind fun k => (aslice P t v l h k).map (·, m)
  | .fieldAddr t x f => (aeval env x).bind fun v => (afieldAddr P t v f).map (·, m)
  | .field t x f => (aeval env x).bind fun v => (afield P t v f).map (·, m)
  | .indexAddr t x i => (aeval env x).bind fun v => (aeval env i).bind fun k => (aindexAddr P t v k).map (·, m)
  | .index t x i => (aeval env x).bind fun v => (aeval env i).bind fun k => (aindex P t v k).map (·, m)
  | .extract t i => (aeval env t).bind fun v => match v with
    | .tuple vs => (vs[i]?).map (·, m)
    | _ => none
  | .call { callee := .builtin b, args := as, argTypes := ts } => (aevals env as.toList).bind fun l => abuiltin P b ts.toList l m
  | _ => none
end Go.Proofs.Ytakmilmckdllfaa.G
