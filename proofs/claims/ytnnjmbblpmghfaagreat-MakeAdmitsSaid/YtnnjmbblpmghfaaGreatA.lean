/-
  An abstract machine for the program's code: values are trees (a slice that is only read is a list), memory is boxes (local variables that lie in memory).
  Conditions: none; definitions alone.
-/
import GoSem.Step
namespace Go.Ab

/-- Pure data: each is the content of one cell. 'l sz rows': a slice, its elements as rows of 'sz' cells. -/
inductive D where
  | b (x : Bool)
  | i (k : IntKind) (n : Int)
  | s (x : ByteArray)
  | l (sz : Nat) (rows : List (List D))
  deriving Inhabited

/-- What a cell (or a slot) holds. -/
inductive C where
  | d (x : D)
  | nil (sz : Nat)
  | nilp
  | ptr (id off : Nat)
  | cptr (row : List D) (off : Nat)
  | view (id off len sz : Nat)
  | own (e sz : Nat) (rows : List (List D))
  | fn (f : Nat) (fs cs : List (Nat × Nat))
  | undef
  deriving Inhabited

inductive V where
  | c (x : C)
  | agg (xs : List C)
  | tup (xs : List V)
  deriving Inhabited

abbrev V.I (n : Int) : V := .c (.d (.i .i64 n))
abbrev V.B (x : Bool) : V := .c (.d (.b x))

/-- What is read when a value is copied: who copies does not own. -/
def clC : C → C
  | .own _ sz rows => .d (.l sz rows)
  | x => x
def cl : V → V
  | .c x => .c (clC x)
  | v => v
/-- What is handed on: a nil list is an empty one. -/
def nmC : C → C
  | .own _ sz rows => .d (.l sz rows)
  | .nil sz => .d (.l sz [])
  | x => x
def nm : V → V
  | .c x => .c (nmC x)
  | .agg xs => .agg (xs.map nmC)
  | v => v
def toD : C → Option D
  | .d x => some x
  | .nil sz => some (.l sz [])
  | .own _ sz rows => some (.l sz rows)
  | _ => none

def allD : List C → Option (List D)
  | [] => some []
  | x :: xs => match toD x, allD xs with
    | some y, some ys => some (y :: ys)
    | _, _ => none

/-- One more than the greatest box that is pointed to. -/
def bdL : List (Nat × Nat) → Nat
  | [] => 0
  | x :: xs => max (x.1 + 1) (bdL xs)
def bd : C → Nat
  | .ptr id _ => id + 1
  | .view id _ _ _ => id + 1
  | .fn _ fs cs => max (bdL fs) (bdL cs)
  | _ => 0
def bdA : List C → Nat
  | [] => 0
  | x :: xs => max (bd x) (bdA xs)

structure Box where
  live : Bool
  cells : List C

inductive Opd where
  | t (n : Nat)
  | k (x : C)

abbrev Env := Nat → V
abbrev Heap := List Box
def ev (e : Env) : Opd → V
  | .t n => cl (e n)
  | .k x => .c x
def upd (e : Env) (d : Nat) (v : V) : Env := fun t => if t = d then v else e t

/-- Operations that change no memory. -/
inductive Q where
  | mv (x : Opd)
  | pick (c a b : Opd)
  | bld (z : List C) (parts : List (Nat × Nat × Opd))
  | ld (a : Opd)
  | lda (n : Nat) (a : Opd)
  | nck (x : Opd)
  | bin (op : BinOp) (x y : Opd)
  | eqb (neg : Bool) (x y : Opd)
  | eqs (neg : Bool) (x y : Opd)
  | eqa (neg : Bool) (n : Nat) (x y : Opd)
  | eqn (x : Opd)
  | eqp (x : Opd)
  | neg (x : Opd)
  | not (x : Opd)
  | cvi (k : IntKind) (x : Opd)
  | cvs (x : Opd)
  | mkf (f : Nat) (fs cs : List Opd)
  | fad (off : Nat) (x : Opd)
  | ias (sz : Nat) (x i : Opd)
  | iaa (n sz : Nat) (x i : Opd)
  | ix (n : Nat) (x i : Opd)
  | ixa (n sz : Nat) (x i : Opd)
  | fld (off : Nat) (x : Opd)
  | sls (sz : Nat) (x : Opd) (lo hi : Option Opd)
  | sla (n sz : Nat) (x : Opd) (lo hi : Option Opd)
  | ext (x : Opd) (j : Nat)
  | len (x : Opd)
  | mm (mx : Bool) (x y : Opd)

def putAt (cs : List C) (off : Nat) : List C → Option (List C)
  | [] => some cs
  | x :: xs => if off < cs.length then putAt (cs.set off x) (off + 1) xs else none
def vcells : V → Option (List C)
  | .c .undef => none
  | .c x => some [x]
  | .agg xs => some xs
  | _ => none
def putAll (e : Env) (cs : List C) : List (Nat × Nat × Opd) → Option (List C)
  | [] => some cs
  | (off, n, x) :: r => match vcells (ev e x) with
    | some xs => if xs.length = n then (match putAt cs off xs with
      | some cs' => putAll e cs' r
      | none => none) else none
    | none => none

def binI (op : BinOp) (k k' : IntKind) (a b : Int) : Option D :=
  match op with
  | .shl => if b < 0 then none else some (.i k (k.wrap (a * 2 ^ min b.toNat k.bits)))
  | .shr => if b < 0 then none else some (.i k (a.fdiv (2 ^ min b.toNat k.bits)))
  | .add => if k = k' then some (.i k (k.wrap (a + b))) else none
  | .sub => if k = k' then some (.i k (k.wrap (a - b))) else none
  | .mul => if k = k' then some (.i k (k.wrap (a * b))) else none
  | .quo => if k = k' then (if b = 0 then none else some (.i k (k.wrap (a.tdiv b)))) else none
  | .rem => if k = k' then (if b = 0 then none else some (.i k (a.tmod b))) else none
  | .and => if k = k' then some (.i k (k.wrap (BitVec.ofInt k.bits a &&& BitVec.ofInt k.bits b).toNat)) else none
  | .or => if k = k' then some (.i k (k.wrap (BitVec.ofInt k.bits a ||| BitVec.ofInt k.bits b).toNat)) else none
  | .xor => if k = k' then some (.i k (k.wrap (BitVec.ofInt k.bits a ^^^ BitVec.ofInt k.bits b).toNat)) else none
  | .eql => if k = k' then some (.b (a == b)) else none
  | .neq => if k = k' then some (.b (a != b)) else none
  | .lss => if k = k' then some (.b (decide (a < b))) else none
  | .leq => if k = k' then some (.b (decide (a ≤ b))) else none
  | .gtr => if k = k' then some (.b (decide (a > b))) else none
  | .geq => if k = k' then some (.b (decide (a ≥ b))) else none
  | _ => none

def eqD : D → D → Option Bool
  | .i k a, .i k' b => if k = k' then some (a == b) else none
  | _, _ => none
def eqCs : List C → List C → Option Bool
  | [], [] => some true
  | .d x :: xs, .d y :: ys => match eqD x y, eqCs xs ys with
    | some p, some q => some (p && q)
    | _, _ => none
  | _, _ => none

def bytesOf : List (List D) → Option (List UInt8)
  | [] => some []
  | [.i .u8 n] :: r => match bytesOf r with
    | some l => some (UInt8.ofNat n.toNat :: l)
    | none => none
  | _ => none

def ptrs (e : Env) : List Opd → Option (List (Nat × Nat))
  | [] => some []
  | x :: xs => match ev e x, ptrs e xs with
    | .c (.ptr id off), some r => some ((id, off) :: r)
    | _, _ => none

def natOf (e : Env) : Option Opd → Nat → Option Nat
  | none, dflt => some dflt
  | some x, _ => match ev e x with
    | .c (.d (.i _ n)) => if 0 ≤ n then some n.toNat else none
    | _ => none

def loadC (H : Heap) (id off : Nat) : Option C :=
  match H[id]? with
  | some bx => (bx.cells[off]?).map clC
  | none => none
def loadA (H : Heap) (id off n : Nat) : Option (List C) :=
  match H[id]? with
  | some bx => if off + n ≤ bx.cells.length then some (((bx.cells.drop off).take n).map clC) else none
  | none => none

/-- What a quiet operation comes to. -/
def qv (e : Env) (H : Heap) : Q → Option V
  | .mv x => some (ev e x)
  | .pick c a b => match ev e c with
    | .c (.d (.b t)) => some (if t then ev e a else ev e b)
    | _ => none
  | .bld z parts => match putAll e z parts with
    | some cs => some (.agg cs)
    | none => none
  | .ld a => match ev e a with
    | .c (.ptr id off) => match loadC H id off with
      | some x => some (.c x)
      | none => none
    | .c (.cptr row off) => match row[off]? with
      | some x => some (.c (.d x))
      | none => none
    | _ => none
  | .lda n a => match ev e a with
    | .c (.ptr id off) => match loadA H id off n with
      | some xs => some (.agg xs)
      | none => none
    | .c (.cptr row off) => if off + n ≤ row.length then some (.agg (((row.drop off).take n).map .d)) else none
    | _ => none
  | .nck x => match ev e x with
    | .c (.ptr id off) => some (.c (.ptr id off))
    | .c (.cptr row off) => some (.c (.cptr row off))
    | .c (.fn f fs cs) => some (.c (.fn f fs cs))
    | _ => none
  | .bin op x y => match ev e x, ev e y with
    | .c (.d (.i k a)), .c (.d (.i k' b)) => match binI op k k' a b with
      | some r => some (.c (.d r))
      | none => none
    | _, _ => none
  | .eqb neg x y => match ev e x, ev e y with
    | .c (.d (.b p)), .c (.d (.b q)) => some (.B (if neg then !(p == q) else p == q))
    | _, _ => none
  | .eqs neg x y => match ev e x, ev e y with
    | .c (.d (.s p)), .c (.d (.s q)) => some (.B (if neg then !(p.toList == q.toList) else p.toList == q.toList))
    | _, _ => none
  | .eqa neg n x y => match ev e x, ev e y with
    | .agg p, .agg q => if p.length = n then (match eqCs p q with
      | some r => some (.B (if neg then !r else r))
      | none => none) else none
    | _, _ => none
  | .eqn x => match ev e x with
    | .c (.view _ _ _ _) => some (.B false)
    | .c (.nil _) => some (.B true)
    | .c (.d (.l _ (_ :: _))) => some (.B false)
    | _ => none
  | .eqp x => match ev e x with
    | .c (.ptr _ _) => some (.B false)
    | .c (.nilp) => some (.B true)
    | _ => none
  | .neg x => match ev e x with
    | .c (.d (.i k a)) => some (.c (.d (.i k (k.wrap (0 - a)))))
    | _ => none
  | .not x => match ev e x with
    | .c (.d (.b p)) => some (.B (!p))
    | _ => none
  | .cvi k x => match ev e x with
    | .c (.d (.i _ a)) => some (.c (.d (.i k (k.wrap a))))
    | _ => none
  | .cvs x => match ev e x with
    | .c (.d (.l 1 rows)) => match bytesOf rows with
      | some l => some (.c (.d (.s ⟨l.toArray⟩)))
      | none => none
    | _ => none
  | .mkf f fs cs => match ptrs e fs, ptrs e cs with
    | some p, some q => some (.c (.fn f p q))
    | _, _ => none
  | .fad off x => match ev e x with
    | .c (.ptr id o) => some (.c (.ptr id (o + off)))
    | .c (.cptr row o) => some (.c (.cptr row (o + off)))
    | _ => none
  | .ias sz x i => match ev e x, ev e i with
    | .c (.d (.l sz' rows)), .c (.d (.i _ n)) => if sz' = sz then (if 0 ≤ n then match rows[n.toNat]? with
        | some row => some (.c (.cptr row 0))
        | none => none
      else none) else none
    | .c (.view id off len sz'), .c (.d (.i _ n)) => if sz' = sz then (if 0 ≤ n then (if n.toNat < len then some (.c (.ptr id (off + n.toNat * sz))) else none) else none) else none
    | _, _ => none
  | .iaa n sz x i => match ev e x, ev e i with
    | .c (.ptr id off), .c (.d (.i _ j)) => if 0 ≤ j then (if j.toNat < n then some (.c (.ptr id (off + j.toNat * sz))) else none) else none
    | .c (.cptr row off), .c (.d (.i _ j)) => if 0 ≤ j then (if j.toNat < n then some (.c (.cptr row (off + j.toNat * sz))) else none) else none
    | _, _ => none
  | .ix n x i => match ev e x, ev e i with
    | .agg xs, .c (.d (.i _ j)) => if 0 ≤ j then (if j.toNat < n then match xs[j.toNat]? with
        | some y => some (.c y)
        | none => none
      else none) else none
    | _, _ => none
  | .ixa n sz x i => match ev e x, ev e i with
    | .agg xs, .c (.d (.i _ j)) => if 0 ≤ j then (if j.toNat < n then (if j.toNat * sz + sz ≤ xs.length then some (.agg ((xs.drop (j.toNat * sz)).take sz)) else none) else none) else none
    | _, _ => none
  | .fld off x => match ev e x with
    | .agg xs => match xs[off]? with
      | some y => some (.c y)
      | none => none
    | _ => none
  | .sls sz x lo hi => match ev e x with
    | .c (.d (.l sz' rows)) => if sz' = sz then (match natOf e lo 0, natOf e hi rows.length with
      | some l, some h => if l ≤ h then (if h ≤ rows.length then some (.c (.d (.l sz ((rows.drop l).take (h - l))))) else none) else none
      | _, _ => none) else none
    | .c (.nil sz') => if sz' = sz then (match natOf e lo 0, natOf e hi 0 with
      | some l, some h => if l ≤ h then (if h = 0 then some (.c (.nil sz)) else none) else none
      | _, _ => none) else none
    | .c (.view id off len sz') => if sz' = sz then (match natOf e lo 0, natOf e hi len with
      | some l, some h => if l < h then (if h ≤ len then some (.c (.view id (off + l * sz) (h - l) sz)) else none) else none
      | _, _ => none) else none
    | _ => none
  | .sla n sz x lo hi => match ev e x with
    | .c (.ptr id off) => match natOf e lo 0, natOf e hi n with
      | some l, some h => if l ≤ h then (if l < n then (if h ≤ n then some (.c (.view id (off + l * sz) (h - l) sz)) else none) else none) else none
      | _, _ => none
    | _ => none
  | .ext x j => match ev e x with
    | .tup xs => xs[j]?
    | _ => none
  | .len x => match ev e x with
    | .c (.d (.l _ rows)) => some (.I rows.length)
    | .c (.nil _) => some (.I 0)
    | .c (.view _ _ len _) => some (.I len)
    | _ => none
  | .mm mx x y => match ev e x, ev e y with
    | .c (.d (.i k a)), .c (.d (.i _ b)) => some (.c (.d (.i k (if mx then (if b > a then b else a) else (if b < a then b else a)))))
    | _, _ => none

/-- All operations. 'q d op': quiet; the others change memory, or who owns what. -/
inductive Op' where
  | q (d : Nat) (op : Q)
  | tk (d s : Nat)
  | alloc (d : Nat) (z : List C)
  | box (d n : Nat) (x : Opd)
  | st (n : Nat) (a x : Opd)
  | ldt (d : Nat) (a : Opd)
  | stt (a : Opd) (s : Nat)
  | bsl (d e sz n : Nat) (z : List C) (parts : List (Nat × Nat × Opd))
  | bsv (d e n : Nat) (parts : List (Nat × Nat × Opd))
  | app (d e sz bytes s : Nat) (x : Opd)
  | call (d : Option Nat) (f : Nat) (args : List Opd)
  | callo (d f s : Nat) (args : List Opd)
  | callv (d : Option Nat) (x : Opd) (args : List Opd)
  | mks (d e sz bytes : Nat) (z : List C) (n : Opd)
  | frz (d s : Nat)
  | thw (d s : Nat)

inductive IOp where
  | o (x : Op')
  | g (t : Nat) (want : Bool) (d : Nat) (x : Op')

inductive K where
  | skip
  | reg (ops : List IOp)
  | dreg (items : List (IOp × Bool × List (List Nat)))
  | seq (a b : K)
  | cond (c : Opd) (a b : K)
  | block (id : Nat) (b : K)
  | loop (b : K)
  | scope (b : K)
  | keep (cut : Bool) (ts rts : List Nat) (xs : List (Nat × List Nat)) (b : K)
  | kill (ts : List Nat) (b : K)
  | exit (id : Nat)
  | ret

inductive Ex where
  | normal
  | exit (id : Nat)
  | ret

structure St where
  env : Env
  H : Heap

inductive KRes where
  | t (n : Nat)
  | cell (n : Nat)
  | cells (n sz : Nat)

structure KFn where
  np : Nat
  nt : Nat
  res : List KRes
  mode : Nat
  body : K

def storeCells (H : Heap) (id off : Nat) (xs : List C) : Option Heap :=
  match H[id]? with
  | some bx => if bx.live = true then (if bdA xs ≤ id + 1 then match putAt bx.cells off xs with
      | some cs => some (H.set id ⟨true, cs⟩)
      | none => none
    else none) else none
  | none => none

/-- The rows of a row of cells. -/
def chop (sz : Nat) : Nat → List D → List (List D)
  | 0, _ => []
  | n + 1, l => l.take sz :: chop sz n (l.drop sz)

/-- A view's rows. -/
def viewRows (H : Heap) (id off len sz : Nat) : Option (List (List D)) :=
  match H[id]? with
  | some bx => if off + len * sz ≤ bx.cells.length then (match allD ((bx.cells.drop off).take (len * sz)) with
      | some l => some (chop sz len l)
      | none => none) else none
  | none => none

abbrev Callee := Nat → List V → Heap → Option (V × Heap)

def evs (e : Env) : List Opd → List V
  | [] => []
  | x :: xs => nm (ev e x) :: evs e xs

def setD (e : Env) (d : Option Nat) (v : V) : Env :=
  match d with
  | some d => upd e d v
  | none => e

def step (call : Callee) (s : St) : Op' → Option St
  | .q d op => match qv s.env s.H op with
    | some v => some ⟨upd s.env d v, s.H⟩
    | none => none
  | .tk d x => some ⟨upd (upd s.env x (cl (s.env x))) d (s.env x), s.H⟩
  | .alloc d z => some ⟨upd s.env d (.c (.ptr s.H.length 0)), s.H ++ [⟨true, z⟩]⟩
  | .box d n x => match vcells (ev s.env x) with
    | some xs => if xs.length = n then some ⟨upd s.env d (.c (.ptr s.H.length 0)), s.H ++ [⟨true, xs⟩]⟩ else none
    | none => none
  | .st n a x => match ev s.env a, vcells (ev s.env x) with
    | .c (.ptr id off), some xs => if xs.length = n then (match storeCells s.H id off xs with
      | some H' => some ⟨s.env, H'⟩
      | none => none) else none
    | _, _ => none
  | .ldt d a => match ev s.env a with
    | .c (.ptr id off) => match s.H[id]? with
      | some bx => match bx.cells[off]? with
        | some (.own e sz rows) => some ⟨upd s.env d (.c (.own e sz rows)), s.H.set id ⟨bx.live, bx.cells.set off (.d (.l sz rows))⟩⟩
        | some (.nil sz) => some ⟨upd s.env d (.c (.nil sz)), s.H⟩
        | _ => none
      | none => none
    | _ => none
  | .stt a x => match ev s.env a, s.env x with
    | .c (.ptr id off), .c (.own e sz rows) => match storeCells s.H id off [.own e sz rows] with
      | some H' => some ⟨upd s.env x (.c (.d (.l sz rows))), H'⟩
      | none => none
    | .c (.ptr id off), .c (.nil sz) => match storeCells s.H id off [.nil sz] with
      | some H' => some ⟨s.env, H'⟩
      | none => none
    | _, _ => none
  | .bsl d e sz n z parts => match putAll s.env ((List.replicate n z).flatten) parts with
    | some cs => match allD cs with
      | some l => if z.length = sz then some ⟨upd s.env d (.c (.own e sz (chop sz n l))), s.H⟩ else none
      | none => none
    | none => none
  | .bsv d _ n parts => match putAll s.env (List.replicate n .undef) parts with
    | some cs => some ⟨upd s.env d (.c (.view s.H.length 0 n 1)), s.H ++ [⟨true, cs⟩]⟩
    | none => none
  | .app d e sz bytes x y => match s.env x, ev s.env y with
    | .c (.own e' sz' rows), .c (.d (.l sz'' new)) => if e' = e then (if sz' = sz then (if sz'' = sz then (if (rows.length + new.length) * bytes ≤ 140737488355328 then
        some ⟨upd (upd s.env x (.c (.d (.l sz rows)))) d (.c (.own e sz (rows ++ new))), s.H⟩ else none) else none) else none) else none
    | .c (.nil sz'), .c (.d (.l sz'' new)) => if sz' = sz then (if sz'' = sz then (if new.length * bytes ≤ 140737488355328 then
        some ⟨upd s.env d (.c (.own e sz new)), s.H⟩ else none) else none) else none
    | _, _ => none
  | .call d f args => match call f (evs s.env args) s.H with
    | some (v, H') => some ⟨setD s.env d v, H'⟩
    | none => none
  | .callo d f x args => match call f (s.env x :: evs s.env args) s.H with
    | some (v, H') => some ⟨upd (upd s.env x (cl (s.env x))) d v, H'⟩
    | none => none
  | .callv d x args => match ev s.env x with
    | .c (.fn f fs cs) => match call f (fs.map (fun p => .c (.ptr p.1 p.2)) ++ evs s.env args ++ cs.map (fun p => .c (.ptr p.1 p.2))) s.H with
      | some (v, H') => some ⟨setD s.env d v, H'⟩
      | none => none
    | _ => none
  | .mks d _ sz bytes z n => match ev s.env n with
    | .c (.d (.i .i64 m)) => if 0 ≤ m then (if m.toNat * bytes ≤ 140737488355328 then (if z.length = sz then
        some ⟨upd s.env d (.c (.view s.H.length 0 m.toNat sz)), s.H ++ [⟨true, (List.replicate m.toNat z).flatten⟩]⟩ else none) else none) else none
    | _ => none
  | .frz d x => match s.env x with
    | .c (.view id off len sz) => match s.H[id]?, viewRows s.H id off len sz with
      | some bx, some rows => match allD bx.cells with
        | some l => some ⟨upd s.env d (.c (.d (.l sz rows))), s.H.set id ⟨false, l.map .d⟩⟩
        | none => none
      | _, _ => none
    | _ => none
  | .thw d x => match s.env x with
    | .c (.own _ sz rows) => some ⟨upd (upd s.env x (.c (.view s.H.length 0 rows.length sz))) d (.c (.view s.H.length 0 rows.length sz)), s.H ++ [⟨true, (rows.flatten).map .d⟩]⟩
    | .c (.view id off len sz) => some ⟨upd s.env d (.c (.view id off len sz)), s.H⟩
    | _ => none

def iop (call : Callee) (s : St) : IOp → Option St
  | .o x => step call s x
  | .g t want d x => match s.env t with
    | .c (.d (.b p)) => if p = want then step call s x else some ⟨upd s.env d (.tup []), s.H⟩
    | .tup [] => some ⟨upd s.env d (.tup []), s.H⟩
    | _ => none

def runOps (call : Callee) : St → List IOp → Option St
  | s, [] => some s
  | s, x :: xs => match iop call s x with
    | some s' => runOps call s' xs
    | none => none

def iter (f : St → Option (Ex × St)) : Nat → St → Option (Ex × St)
  | 0, _ => none
  | n + 1, s => match f s with
    | some (.normal, s') => iter f n s'
    | some (e, s') => some (e, s')
    | none => none

/-- Does the operation look at memory, or change it? -/
def hsX : Op' → Bool
  | .q _ (.ld _) => true
  | .q _ (.lda _ _) => true
  | .q _ _ => false
  | .tk _ _ => false
  | .bsl _ _ _ _ _ _ => false
  | .app _ _ _ _ _ _ => false
  | _ => true
def hsI : IOp → Bool
  | .o x => hsX x
  | .g _ _ _ x => hsX x
def effsGo : Nat → List (IOp × Bool × List (List Nat)) → List Nat
  | _, [] => []
  | i, (_, e, _) :: r => if e then i :: effsGo (i + 1) r else effsGo (i + 1) r
def effs (items : List (IOp × Bool × List (List Nat))) : List Nat := effsGo 0 items
def insF (l F : List Nat) (i : Nat) : List Nat := l.filter fun j => F.contains j || j == i
/-- In whatever order the operations go, they come to the same. 'es i': what the slots hold before operation i, in the order of the text; 'hv F': memory when the operations F have changed it. -/
def DR (call : Callee) (items : List (IOp × Bool × List (List Nat))) (s s' : St) : Prop :=
  ∃ (es : Nat → Env) (hv : List Nat → Heap), es 0 = s.env ∧ hv [] = s.H ∧ es items.length = s'.env ∧ hv (effs items) = s'.H ∧
    ∀ i x e adm, items[i]? = some (x, e, adm) →
      (hsI x = false → iop call ⟨es i, s.H⟩ x = some ⟨es (i + 1), s.H⟩) ∧
      (hsI x = true → ∀ F ∈ adm, iop call ⟨es i, hv F⟩ x = some ⟨es (i + 1), hv (if e then insF (effs items) F i else F)⟩)

def preE (items : List (IOp × Bool × List (List Nat))) (i : Nat) : List Nat := effs (items.take i)
/-- Does memory change in the order of the text alone? -/
def plainD (items : List (IOp × Bool × List (List Nat))) : Bool :=
  (List.range items.length).all fun i => match items[i]? with
    | some (_, e, adm) => adm == [preE items i] && (if e then insF (effs items) (preE items i) i == preE items (i + 1) else true)
    | none => false
open Classical in
noncomputable def runD (call : Callee) : St → List (IOp × Bool × List (List Nat)) → Option St
  | s, [] => some s
  | s, (x, e, _) :: xs => match iop call s x with
    | some s' => if e = true ∨ s'.H = s.H then runD call s' xs else none
    | none => none

/-- Which memory is behind a set of effects. -/
def lookA : List (List Nat × Heap) → List Nat → Option Heap
  | [], _ => none
  | (G, h) :: r, F => if G = F then some h else lookA r F
open Classical in
noncomputable def admOne (l : List Nat) (i : Nat) (ef : Bool) (F : List Nat) (h : Heap) (s1 : St) (A : List (List Nat × Heap)) : Option (List (List Nat × Heap)) :=
  if ef = true then (match lookA A (insF l F i) with
    | none => some (A ++ [(insF l F i, s1.H)])
    | some h2 => if s1.H = h2 then some A else none)
  else if s1.H = h then some A else none
/-- What is still to be looked at: an operation in another memory that it may meet. -/
abbrev Td := Nat × IOp × Bool × List Nat × Env × Env
noncomputable def ph1 (call : Callee) (l : List Nat) : Nat → Env → List (List Nat × Heap) → List Td → List (IOp × Bool × List (List Nat)) → Option (Env × List (List Nat × Heap) × List Td)
  | _, e, A, T, [] => some (e, A, T)
  | _, _, _, _, (_, _, []) :: _ => none
  | i, e, A, T, (x, ef, F :: Fs) :: ys => match lookA A F with
    | none => none
    | some h => match iop call ⟨e, h⟩ x with
      | none => none
      | some s1 => match admOne l i ef F h s1 A with
        | none => none
        | some A1 => ph1 call l (i + 1) s1.env A1 (T ++ Fs.map fun G => (i, x, ef, G, e, s1.env)) ys
open Classical in
noncomputable def tdGo (call : Callee) (l : List Nat) : List Td → List (List Nat × Heap) → List Td → Option (List (List Nat × Heap) × List Td)
  | [], A, R => some (A, R)
  | (i, x, ef, F, e, e1) :: T, A, R => match lookA A F with
    | none => tdGo call l T A (R ++ [(i, x, ef, F, e, e1)])
    | some h => match iop call ⟨e, h⟩ x with
      | none => none
      | some s1 => if s1.env = e1 then (match admOne l i ef F h s1 A with
        | none => none
        | some A1 => tdGo call l T A1 R) else none
noncomputable def rounds (call : Callee) (l : List Nat) : Nat → List Td → List (List Nat × Heap) → Option (List (List Nat × Heap))
  | _, [], A => some A
  | 0, _ :: _, _ => none
  | n + 1, t :: T, A => match tdGo call l (t :: T) A [] with
    | none => none
    | some (A', R) => rounds call l n R A'
/-- Run in the order of the text; then each operation in each memory that it may meet. -/
noncomputable def runA (call : Callee) (l : List Nat) (s : St) (items : List (IOp × Bool × List (List Nat))) : Option St :=
  match ph1 call l 0 s.env [([], s.H)] [] items with
  | none => none
  | some (e, A, T) => match rounds call l (l.length + 1) T A with
    | none => none
    | some A' => match lookA A' l with
      | none => none
      | some h => some ⟨e, h⟩
def okE (items : List (IOp × Bool × List (List Nat))) : Bool := items.all fun p => !p.2.2.isEmpty && (hsI p.1 || !p.2.1)

/-- What is kept of the slots. -/
def und : Env := fun _ => .c .undef
def keepE (e : Env) : List Nat → Env
  | [] => und
  | t :: ts => upd (keepE e ts) t (e t)
def bdV : V → Nat
  | .c x => bd x
  | .agg xs => bdA xs
  | _ => 0
def bdsE (e : Env) : List Nat → Nat
  | [] => 0
  | t :: ts => max (bdV (e t)) (bdsE e ts)
def isTup : V → Bool
  | .tup _ => true
  | _ => false
def noTup (e : Env) : List Nat → Bool
  | [] => true
  | t :: ts => !isTup (e t) && noTup e ts
/-- Behind a scope nothing is left of it but the slots that are named. -/
def keepS (cut : Bool) (ts : List Nat) (n : Nat) (s : St) : Option St :=
  if cut = false then some ⟨keepE s.env ts, s.H⟩ else if noTup s.env ts = true then (if bdsE s.env ts ≤ n then some ⟨keepE s.env ts, s.H.take n⟩ else none) else none

/-- Which slots are named depends on how the scope is left. -/
def kset (ts rts : List Nat) (xs : List (Nat × List Nat)) : Ex → List Nat
  | .normal => ts
  | .ret => rts
  | .exit id => match xs.find? (fun p => Nat.beq p.1 id) with
    | some p => p.2
    | none => ts

noncomputable def run (call : Callee) (fuel : Nat) : K → St → Option (Ex × St)
  | .skip, s => some (.normal, s)
  | .reg ops, s => match runOps call s ops with
    | some s' => some (.normal, s')
    | none => none
  | .dreg items, s => if plainD items = true then (match runD call s items with
      | some s' => some (.normal, s')
      | none => none)
    else if okE items = true then (match runA call (effs items) s items with
      | some s' => some (.normal, s')
      | none => none) else none
  | .seq a b, s => match run call fuel a s with
    | some (.normal, s') => run call fuel b s'
    | some (e, s') => some (e, s')
    | none => none
  | .cond c a b, s => match ev s.env c with
    | .c (.d (.b t)) => if t then run call fuel a s else run call fuel b s
    | _ => none
  | .block id b, s => match run call fuel b s with
    | some (.exit j, s') => if j = id then some (.normal, s') else some (.exit j, s')
    | some (e, s') => some (e, s')
    | none => none
  | .loop b, s => iter (run call fuel b) fuel s
  | .scope b, s => run call fuel b s
  | .keep cut ts rts xs b, s => match run call fuel b s with
    | some (e, s') => match keepS cut (kset ts rts xs e) s.H.length s' with
      | some s2 => some (e, s2)
      | none => none
    | none => none
  | .kill ts b, s => run call fuel b ⟨keepE s.env ts, s.H⟩
  | .exit id, s => some (.exit id, s)
  | .ret, s => some (.ret, s)

def resVal (n0 : Nat) (mode : Nat) (H : Heap) (x : C) : Option C :=
  match x with
  | .view id off len sz => if mode = 2 then some x else if n0 ≤ id then (match viewRows H id off len sz with
      | some rows => some (.d (.l sz rows))
      | none => none) else some x
  | .own e sz rows => if mode = 1 then some (.own e sz rows) else some (.d (.l sz rows))
  | .nil sz => if mode = 1 then some (.nil sz) else some (.d (.l sz []))
  | .undef => none
  | x => some x
def resVals (n0 : Nat) (mode : Nat) (H : Heap) : List C → Option (List C)
  | [] => some []
  | x :: xs => match resVal n0 mode H x, resVals n0 mode H xs with
    | some y, some ys => some (y :: ys)
    | _, _ => none
def resOne (n0 mode : Nat) (s : St) : KRes → Option V
  | .t n => match s.env n with
    | .c x => match resVal n0 mode s.H x with
      | some y => some (.c y)
      | none => none
    | .agg xs => match resVals n0 (if mode = 1 then 0 else mode) s.H xs with
      | some ys => some (.agg ys)
      | none => none
    | _ => none
  | .cell n => match s.env n with
    | .c (.ptr id off) => match loadC s.H id off with
      | some x => match resVal n0 (if mode = 1 then 0 else mode) s.H x with
        | some y => some (.c y)
        | none => none
      | none => none
    | _ => none
  | .cells n sz => match s.env n with
    | .c (.ptr id off) => match loadA s.H id off sz with
      | some xs => match resVals n0 (if mode = 1 then 0 else mode) s.H xs with
        | some ys => some (.agg ys)
        | none => none
      | none => none
    | _ => none
def resAll (n0 mode : Nat) (s : St) : List KRes → Option (List V)
  | [] => some []
  | r :: rs => match resOne n0 mode s r, resAll n0 mode s rs with
    | some v, some vs => if mode = 2 then some (v :: vs) else if bdV v ≤ n0 then some (v :: vs) else none
    | _, _ => none
def retV : List V → V
  | [v] => v
  | vs => .tup vs

def env0 (args : List V) : Env := fun t => args.getD t (.c .undef)

def finish (kf : KFn) (n0 : Nat) (s : St) : Option (V × Heap) :=
  match resAll n0 kf.mode s kf.res with
  | some vs => some (retV vs, if kf.mode = 2 then s.H else s.H.take n0)
  | none => none

noncomputable def pcallN (fns : Nat → Option KFn) (ext : Callee) : Nat → Callee
  | 0 => fun _ _ _ => none
  | n + 1 => fun f args H => match fns f with
    | some kf => if args.length = kf.np then (match run (pcallN fns ext n) n kf.body ⟨env0 args, H⟩ with
      | some (.normal, s) => finish kf H.length s
      | some (.ret, s) => finish kf H.length s
      | _ => none) else none
    | none => ext f args H

end Go.Ab
