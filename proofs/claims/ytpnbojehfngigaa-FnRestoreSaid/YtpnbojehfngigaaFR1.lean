/- The law FnRestore returns true for every input, and its input reads behind the call as it did. No condition. -/
import Derived.Orders
import Derived.Below
import Derived.Laws.CopyRow
import Derived.Deep.Upon

/- The ideal machine: a small deterministic machine over an ideal heap, into which a loaded function is compiled. Definitions only; nothing is assumed. -/
namespace Go.Proofs.Ytpnbojehfngigaa.IM
open Go

/-- A block of the ideal heap. -/
structure Blk where
  cells : List Value
  sz : Nat
  rw : Bool

abbrev Heap := List (Option Blk)

def Heap.get (H : Heap) (b : Nat) : Option Blk :=
  match H[b]? with
  | some (some k) => some k
  | _ => none

/-- An operand's value: a value, or the address of a place in a box of the frame's own. -/
inductive EV where
  | val (v : Value)
  | adr (t off : Nat)
  | tup (vs : List Value)
  | non

abbrev Env := List (Nat × EV)

def lk : Env → Nat → Option EV
  | [], _ => none
  | (k, x) :: e, d => if k = d then some x else lk e d

inductive IOpd where
  | l (d : Nat)
  | v (k d : Nat)
  | b (t d : Nat)
  | c (x : Value)

/-- How two values are compared. -/
inductive ETy where
  | int | bool | str | sl | st (fs : List (Nat × Bool))

inductive IK where
  | mv
  | pick
  | bin (op : BinOp) (e : ETy)
  | not | neg
  | fa (off : Nat)
  | ia (sz : Nat)
  | ld (n : Nat) (agg : Bool)
  | st (n : Nat)
  | abx (t : Nat) (zero : List Value)
  | bbx (t n : Nat)
  | ah (zero : List Value)
  | bh (n : Nat)
  | bd (zero : List Value) (parts : List (Nat × Nat))
  | bs (len sz : Nat) (zero : List Value) (parts : List (Nat × Nat))
  | nc
  | mk (zero : List Value) (bytes : Nat)
  | sl (lo hi : Bool) (sz : Nat)
  | ex (i : Nat)
  | len | cap | min | max
  | app (sz bytes : Nat)
  | appz (zero : List Value) (bytes : Nat)
  | cvi (k : IntKind)
  | cvs
  | mf (f : Nat)
  | call (f : Nat)
  | callv
  | bad

structure IOp where
  dst : Option Nat
  k : IK
  args : List IOpd
  guard : Option (Nat × Bool)

inductive IC where
  | skip
  | reg (ops : List IOp) (keep : List (Nat × Nat)) (draw : Option Nat)
  | regl (ops : List IOp) (keep : List (Nat × Nat)) (draw : Nat) (late : List Nat)
  | regc (ops : List IOp) (keep : List (Nat × Nat)) (draw : Option Nat) (c : IOpd) (a b : IC)
  | seq (a b : IC)
  | cond (c : IOpd) (a b : IC)
  | block (id : Nat) (a : IC)
  | loop (a : IC)
  | exit (id : Nat)
  | ret

inductive IRes where
  | v (k d : Nat)
  | b (t d n : Nat) (agg : Bool)

structure IFun where
  np : Nat
  res : List IRes
  body : IC

structure St where
  v : List (Option Value)
  bx : List (List Value)
  h : Heap

inductive IExit where
  | normal
  | exit (id : Nat)
  | ret
  deriving DecidableEq

/-- The cells of a value. -/
def cl (v : Value) : List Value := v.cells.toList

/-- The value of some cells. -/
def mkv (agg : Bool) (cs : List Value) : Value := if agg then .agg cs.toArray else cs.headD (.tuple #[])

def Heap.rd (H : Heap) (p : Value) (n : Nat) : Option (List Value) :=
  match p with
  | .pointer (some ⟨b, o, none⟩) =>
    match H.get b with
    | some k => if o + n ≤ k.cells.length then some ((k.cells.drop o).take n) else none
    | none => none
  | _ => none

def put (l : List Value) (o : Nat) (vs : List Value) : List Value := l.take o ++ vs ++ l.drop (o + vs.length)

def Heap.wr (H : Heap) (p : Value) (vs : List Value) : Option Heap :=
  match p with
  | .pointer (some ⟨b, o, none⟩) =>
    match H.get b with
    | some k => if k.rw = true ∧ o + vs.length ≤ k.cells.length then some (H.set b (some { k with cells := put k.cells o vs })) else none
    | none => none
  | _ => none

def addP (p : Value) (off : Nat) : Option Value :=
  match p with
  | .pointer (some ⟨b, o, none⟩) => some (.pointer (some ⟨b, o + off, none⟩))
  | _ => none

def elemP (s i : Value) (sz : Nat) : Option Value :=
  match s, i with
  | .slice (some ⟨b, o, none⟩) n _, .int _ j => if 0 ≤ j ∧ j < n then some (.pointer (some ⟨b, o + j.toNat * sz, none⟩)) else none
  | _, _ => none

def lenV (s : Value) : Option Value :=
  match s with
  | .slice _ n _ => some (.int .i64 n)
  | _ => none

/-- A slice of a slice. -/
def cutS (s : Value) (lo hi : Option Int) (sz : Nat) : Option Value :=
  match s with
  | .slice (some ⟨b, o, none⟩) n c =>
    if 0 ≤ lo.getD 0 ∧ lo.getD 0 ≤ hi.getD n ∧ hi.getD n ≤ c then
      some (.slice (some ⟨b, o + (lo.getD 0).toNat * sz, none⟩) ((hi.getD n).toNat - (lo.getD 0).toNat) (c - (lo.getD 0).toNat))
    else none
  | .slice none 0 0 => if lo.getD 0 = 0 ∧ hi.getD 0 = 0 then some (.slice none 0 0) else none
  | _ => none

/-- Are the elements of this size? -/
def Heap.szOk (H : Heap) (s : Value) (sz : Nat) : Bool :=
  match s with
  | .slice (some ⟨b, _, _⟩) _ _ => match H.get b with
    | some B => B.sz == sz
    | none => false
  | _ => true

/-- The cells of a slice. -/
def Heap.cellsOf (H : Heap) (s : Value) (sz : Nat) : Option (List Value) :=
  match s with
  | .slice (some ⟨b, o, none⟩) n _ =>
    match H.get b with
    | some k => if k.sz = sz ∧ o + n * sz ≤ k.cells.length then some ((k.cells.drop o).take (n * sz)) else none
    | none => none
  | .slice none 0 0 => some []
  | _ => none

def lenS : Value → Nat
  | .slice _ n _ => n
  | _ => 0

/-- append of k elements. -/
def Heap.app (H : Heap) (s : Value) (sz bytes k : Nat) (new : List Value) : Option (Value × Heap) :=
  if k = 0 then
    match s with
    | .slice _ _ _ => some (s, H)
    | _ => none
  else if 2 ^ 38 < lenS s + k ∨ 256 < bytes ∨ bytes = 0 ∨ sz = 0 then none
  else match s with
    | .slice none 0 0 => some (.slice (some ⟨H.length, 0, none⟩) k k, H ++ [some ⟨new, sz, true⟩])
    | .slice (some ⟨b, o, none⟩) n c =>
      match H.get b with
      | some B =>
        if B.sz = sz ∧ B.rw = true then
          if n + k ≤ c then
            if o + (n + k) * sz ≤ B.cells.length then some (.slice (some ⟨b, o, none⟩) (n + k) c, H.set b (some { B with cells := put B.cells (o + n * sz) new })) else none
          else if o + n * sz = B.cells.length then
            some (.slice (some ⟨H.length, 0, none⟩) (n + k) (n + k), (if B.cells.isEmpty = true then H else H.set b none) ++ [some ⟨B.cells.drop o ++ new, sz, true⟩])
          else none
        else none
      | none => none
    | _ => none

def reps (n : Nat) (z : List Value) : List Value :=
  match n with
  | 0 => []
  | n + 1 => z ++ reps n z

/-- Parts of the cells filled in. -/
def fillC (cells : List Value) : List (Nat × Nat) → List Value → Option (List Value)
  | [], [] => some cells
  | (off, size) :: ps, v :: vs => if (cl v).length = size ∧ off + size ≤ cells.length then fillC (put cells off (cl v)) ps vs else none
  | _, _ => none

def eqCells : List (Nat × Bool) → List Value → List Value → Option Bool
  | [], _, _ => some true
  | (o, false) :: os, xs, ys =>
    match xs[o]?, ys[o]? with
    | some (.int k a), some (.int k' b) => if k = k' then (if a = b then eqCells os xs ys else some false) else none
    | _, _ => none
  | (o, true) :: os, xs, ys =>
    match xs[o]?, ys[o]? with
    | some (.bool a), some (.bool b) => if a = b then eqCells os xs ys else some false
    | _, _ => none

def ieq (e : ETy) (x y : Value) : Option Bool :=
  match e, x, y with
  | .bool, .bool a, .bool b => some (a == b)
  | .sl, .slice none 0 0, .slice b _ _ => some b.isNone
  | .sl, .slice b _ _, .slice none 0 0 => some b.isNone
  | .st fs, .agg xs, .agg ys => eqCells fs xs.toList ys.toList
  | _, _, _ => none

def ibin (op : BinOp) (e : ETy) (x y : Value) : Option Value :=
  match x, y with
  | .int k a, .int k' b =>
    if k = k' then
      match op with
      | .add => some (.int k (k.wrap (a + b)))
      | .sub => some (.int k (k.wrap (a - b)))
      | .mul => some (.int k (k.wrap (a * b)))
      | .quo => if b = 0 then none else some (.int k (k.wrap (a.tdiv b)))
      | .rem => if b = 0 then none else some (.int k (a.tmod b))
      | .and => some (.int k (k.wrap (BitVec.ofInt k.bits a &&& BitVec.ofInt k.bits b).toNat))
      | .or => some (.int k (k.wrap (BitVec.ofInt k.bits a ||| BitVec.ofInt k.bits b).toNat))
      | .xor => some (.int k (k.wrap (BitVec.ofInt k.bits a ^^^ BitVec.ofInt k.bits b).toNat))
      | .eql => some (.bool (a == b))
      | .neq => some (.bool (a != b))
      | .lss => some (.bool (a < b))
      | .leq => some (.bool (a ≤ b))
      | .gtr => some (.bool (a > b))
      | .geq => some (.bool (a ≥ b))
      | .shr => if b < 0 then none else some (.int k (a.fdiv (2 ^ (Min.min b.toNat k.bits))))
      | .shl => if b < 0 then none else some (.int k (k.wrap (a * 2 ^ (Min.min b.toNat k.bits))))
      | _ => none
    else match op with
      | .shr => if b < 0 then none else some (.int k (a.fdiv (2 ^ (Min.min b.toNat k.bits))))
      | .shl => if b < 0 then none else some (.int k (k.wrap (a * 2 ^ (Min.min b.toNat k.bits))))
      | _ => none
  | x, y =>
    match op with
    | .eql => (ieq e x y).map Value.bool
    | .neq => (ieq e x y).map fun b => Value.bool (!b)
    | _ => none

def isPtr : Value → Bool
  | .pointer _ => true
  | _ => false

def noadr : List EV → Bool
  | [] => true
  | .adr _ _ :: _ => false
  | .non :: _ => false
  | _ :: xs => noadr xs

/-- Places of boxes stand at three operations alone. -/
def okArgs (k : IK) (xs : List EV) : Bool :=
  match k with
  | .fa _ => true
  | .ld _ _ => true
  | .st _ => true
  | _ => noadr xs

/-- One operation that is no call. -/
def iexec (k : IK) (xs : List EV) (bx : List (List Value)) (H : Heap) : Option (Option EV × List (List Value) × Heap) :=
  match k, xs with
  | .mv, [.val x] => some (some (.val x), bx, H)
  | .mv, [.tup x] => some (some (.tup x), bx, H)
  | .pick, [.val (.bool c), a, b] => if noadr [a, b] = true then (match c, a, b with
    | true, .val a, _ => some (some (.val a), bx, H)
    | false, _, .val b => some (some (.val b), bx, H)
    | _, _, _ => none) else none
  | .bin op e, [.val x, .val y] => (ibin op e x y).map fun z => (some (.val z), bx, H)
  | .not, [.val (.bool b)] => some (some (.val (.bool !b)), bx, H)
  | .neg, [.val (.int k n)] => some (some (.val (.int k (k.wrap (0 - n)))), bx, H)
  | .fa off, [.val p] => (addP p off).map fun q => (some (.val q), bx, H)
  | .fa off, [.adr t o] =>
    match bx[t]? with
    | some cs => if o + off < cs.length then some (some (.adr t (o + off)), bx, H) else none
    | none => none
  | .ia sz, [.val s, .val i] => (elemP s i sz).map fun q => (some (.val q), bx, H)
  | .ld n agg, [.val p] => (H.rd p n).map fun cs => (some (.val (mkv agg cs)), bx, H)
  | .ld n agg, [.adr t o] =>
    match bx[t]? with
    | some cs => if o + n ≤ cs.length then some (some (.val (mkv agg ((cs.drop o).take n))), bx, H) else none
    | none => none
  | .st n, [.val p, .val v] => if (cl v).length = n then (H.wr p (cl v)).map fun H' => (none, bx, H') else none
  | .st n, [.adr t o, .val v] =>
    match bx[t]? with
    | some cs => if (cl v).length = n ∧ o + n ≤ cs.length then some (none, bx.set t (put cs o (cl v)), H) else none
    | none => none
  | .abx t zero, [] => some (some (.adr t 0), bx.set t zero, H)
  | .bbx t n, [.val v] => if (cl v).length = n then some (some (.adr t 0), bx.set t (cl v), H) else none
  | .ah zero, [] => some (some (.val (.pointer (some ⟨H.length, 0, none⟩))), bx, H ++ [some ⟨zero, zero.length, true⟩])
  | .bh n, [.val v] => if (cl v).length = n then some (some (.val (.pointer (some ⟨H.length, 0, none⟩))), bx, H ++ [some ⟨cl v, n, true⟩]) else none
  | .bd zero parts, xs => match allV xs with
    | some vs => (fillC zero parts vs).map fun cs => (some (.val (.agg cs.toArray)), bx, H)
    | none => none
  | .bs len sz zero parts, xs => match allV xs with
    | some vs => if len * sz ≤ 2 ^ 24 then (fillC (reps len zero) parts vs).map fun cs => (some (.val (.slice (some ⟨H.length, 0, none⟩) len len)), bx, H ++ [some ⟨cs, sz, true⟩]) else none
    | none => none
  | .nc, [.val (.pointer (some a))] => some (some (.val (.pointer (some a))), bx, H)
  | .mk zero bytes, [.val (.int _ l), .val (.int _ c)] =>
    if 0 ≤ l ∧ l ≤ c ∧ c ≤ 2 ^ 38 ∧ bytes ≤ 256 then
      some (some (.val (.slice (some ⟨H.length, 0, none⟩) l.toNat c.toNat)), bx, H ++ [some ⟨reps c.toNat zero, zero.length, true⟩])
    else none
  | .sl lo hi sz, xs =>
    if noadr xs = true then
    match lo, hi, xs with
    | false, false, [.val s] => if H.szOk s sz = true then (cutS s none none sz).map fun q => (some (.val q), bx, H) else none
    | true, false, [.val s, .val (.int _ l)] => if H.szOk s sz = true then (cutS s (some l) none sz).map fun q => (some (.val q), bx, H) else none
    | false, true, [.val s, .val (.int _ h)] => if H.szOk s sz = true then (cutS s none (some h) sz).map fun q => (some (.val q), bx, H) else none
    | true, true, [.val s, .val (.int _ l), .val (.int _ h)] => if H.szOk s sz = true then (cutS s (some l) (some h) sz).map fun q => (some (.val q), bx, H) else none
    | _, _, _ => none
    else none
  | .ex i, [.tup vs] => match vs[i]? with
    | some v => some (some (.val v), bx, H)
    | none => none
  | .len, [.val s] => (lenV s).map fun q => (some (.val q), bx, H)
  | .cap, [.val (.slice none 0 0)] => some (some (.val (.int .i64 0)), bx, H)
  | .min, [.val (.int .i64 a), .val (.int .i64 b)] => some (some (.val (.int .i64 (if b < a then b else a))), bx, H)
  | .max, [.val (.int .i64 a), .val (.int .i64 b)] => some (some (.val (.int .i64 (if a < b then b else a))), bx, H)
  | .app sz bytes, [.val s, .val x] => match H.cellsOf x sz with
    | some new => (H.app s sz bytes (lenS x) new).map fun r => (some (.val r.1), bx, r.2)
    | none => none
  | .appz zero bytes, [.val (.slice none 0 0), .val (.int .i64 n)] =>
    if 0 < n ∧ n ≤ 2 ^ 38 ∧ bytes ≤ 256 then some (some (.val (.slice (some ⟨H.length, 0, none⟩) n.toNat n.toNat)), bx, H ++ [some ⟨reps n.toNat zero, zero.length, true⟩]) else none
  | .cvi k, [.val (.int _ n)] => some (some (.val (.int k (k.wrap n))), bx, H)
  | .cvs, [.val (.string s)] => some (some (.val (.slice (some ⟨H.length, 0, none⟩) s.size s.size)), bx, H ++ [some ⟨s.data.toList.map fun b => .int .u8 b.toNat, 1, false⟩])
  | .mf f, xs => match allV xs with
    | some vs => if vs.all isPtr = true then some (some (.val (.func (.func f) #[] vs.toArray)), bx, H) else none
    | none => none
  | _, _ => none
  where
  allV : List EV → Option (List Value)
    | [] => some []
    | .val v :: xs => (allV xs).map (v :: ·)
    | _ => none

def ev (env : Env) (vs : List (Option Value)) : IOpd → Option EV
  | .l d => lk env d
  | .v k d => match lk env d with
    | some x => some x
    | none => match vs[k]? with
      | some (some x) => some (.val x)
      | _ => none
  | .b t _ => some (.adr t 0)
  | .c x => some (.val x)

def evs (env : Env) (vs : List (Option Value)) : List IOpd → Option (List EV)
  | [] => some []
  | x :: xs => match ev env vs x, evs env vs xs with
    | some y, some ys => some (y :: ys)
    | _, _ => none

/-- Is the operation wanted? -/
def want (env : Env) : Option (Nat × Bool) → Option Bool
  | none => some true
  | some (d, b) => match lk env d with
    | some (.val (.bool c)) => some (c == b)
    | some (.tup _) => some false
    | _ => none

def bind1 (env : Env) (dst : Option Nat) (x : Option EV) : Env :=
  match dst, x with
  | some d, some y => (d, y) :: env
  | some d, none => (d, .tup []) :: env
  | none, _ => env

def fin (env : Env) : List (Nat × Nat) → List (Option Value) → Option (List (Option Value))
  | [], vs => some vs
  | (d, k) :: ks, vs => match lk env d with
    | some (.val x) => fin env ks (vs.set k (some x))
    | some (.tup _) => fin env ks (vs.set k none)
    | _ => none

/-- What a call's results are to the caller. -/
def resEV : List Value → EV
  | [v] => .val v
  | vs => .tup vs

end Go.Proofs.Ytpnbojehfngigaa.IM

/- The ideal machine: from a loaded function to its small code. -/
namespace Go.Proofs.Ytpnbojehfngigaa.IM
open Go

/-- Which temporaries are kept between regions, and which hold the address of a box of the frame's own. -/
structure Cfg where
  K : List Nat
  B : List Nat
  nt : Nat

def agg? (P : Program) (t : TypeId) : Option Bool :=
  match P.underlying t with
  | some (.struct _) => some true
  | some (.array _ _) => some true
  | some _ => some false
  | none => none

def size? (P : Program) (t : TypeId) : Option Nat := (P.info? t).map (·.size)
def bytes? (P : Program) (t : TypeId) : Option Nat := (P.info? t).map (·.bytes)

def flat : Value → Bool
  | .agg _ | .tuple _ => false
  | _ => true

def plain : Value → Bool
  | .bool _ | .int _ _ | .string _ | .pointer none | .slice none 0 0 => true
  | _ => false

/-- The zero cells of a type: plain ones alone. -/
def zero? (P : Program) (t : TypeId) : Option (List Value) :=
  match P.info? t with
  | some i => match i.zero with
    | some z => if (cl z).all plain && (cl z).length == i.size then some (cl z) else none
    | none => none
  | none => none

def elem? (P : Program) (t : TypeId) : Option TypeId :=
  match P.underlying t with
  | some (.slice e) => some e
  | _ => none

def cOpd (C : Cfg) : Operand → Option IOpd
  | .tmp t =>
    match C.B.idxOf? t with
    | some i => some (.b i t)
    | none => match C.K.idxOf? t with
      | some k => some (.v k t)
      | none => some (.l t)
  | .const v => if plain v then some (.c v) else none
  | .global _ => none
  | .func f => some (.c (.func (.func f) #[] #[]))

def cOpds (C : Cfg) : List Operand → Option (List IOpd)
  | [] => some []
  | x :: xs => match cOpd C x, cOpds C xs with
    | some y, some ys => some (y :: ys)
    | _, _ => none

def fieldsEq (P : Program) : List Field → Option (List (Nat × Bool))
  | [] => some []
  | f :: fs => match fieldsEq P fs with
    | some os =>
      if f.name == "_" then none else
      match P.underlying f.type with
      | some (.int _) => some ((f.offset, false) :: os)
      | some .bool => some ((f.offset, true) :: os)
      | _ => none
    | none => none

def ety (P : Program) (t : TypeId) : Option ETy :=
  match P.underlying t with
  | some (.int _) => some .int
  | some .bool => some .bool
  | some .string => some .str
  | some (.slice _) => some .sl
  | some (.struct fs) =>
    if P.stoodInHeld t || P.eqGuardType P.depth t then none else
    match fieldsEq P fs.toList with
    | some os => some (.st os)
    | none => none
  | _ => none

def places (P : Program) : List Field → Option (List (Nat × Nat))
  | [] => some []
  | f :: fs => match size? P f.type, places P fs with
    | some s, some ps => some ((f.offset, s) :: ps)
    | _, _ => none

def pickPlaces (ps : List (Nat × Nat)) : List (Nat × Operand) → Option (List (Nat × Nat))
  | [] => some []
  | (i, _) :: xs => match ps[i]?, pickPlaces ps xs with
    | some p, some r => some (p :: r)
    | _, _ => none

def cArgs (C : Cfg) (xs : List Operand) (k : IK) : Option (IK × List IOpd) := (cOpds C xs).map fun ys => (k, ys)

def isAdr : IOpd → Bool
  | .b _ _ => true
  | _ => false

def cCall (P : Program) (C : Cfg) (c : Call) : Option (IK × List IOpd) :=
  match c.callee with
  | .value (.func f) =>
    match P.funcs[f]? with
    | some fn => if fn.body.isSome && !(fn.name == "runtime.NumGoroutine") then cArgs C c.args.toList (.call f) else none
    | none => none
  | .value (.tmp t) => cArgs C (.tmp t :: c.args.toList) .callv
  | .builtin .len => if c.args.size == 1 then (match (c.argTypes[0]?).bind P.underlying with
    | some (.slice _) => cArgs C c.args.toList .len
    | _ => none) else none
  | .builtin .cap => if c.args.size == 1 then (match (c.argTypes[0]?).bind P.underlying with
    | some (.slice _) => cArgs C c.args.toList .cap
    | _ => none) else none
  | .builtin .min => if c.args.size == 2 then cArgs C c.args.toList .min else none
  | .builtin .max => if c.args.size == 2 then cArgs C c.args.toList .max else none
  | .builtin .append =>
    if c.args.size == 2 then
      match c.argTypes.toList with
      | [t, u] => match elem? P t with
        | some e => match size? P e, bytes? P e, zero? P e, P.underlying u with
          | some s, some b, some z, some (.slice _) => if z.length == s then cArgs C c.args.toList (.app s b) else none
          | some s, some b, some z, some (.int _) => if z.length == s then cArgs C c.args.toList (.appz z b) else none
          | _, _, _, _ => none
        | none => none
      | _ => none
    else none
  | _ => none

def cOp (P : Program) (C : Cfg) (o : Oper) : Option (IK × List IOpd) :=
  match o.op with
  | .move x | .assign x => cArgs C [x] .mv
  | .pick c a b => cArgs C [c, a, b] .pick
  | .alloc t =>
    match zero? P t with
    | some z => match o.dst with
      | some d => match C.B.idxOf? d with
        | some i => if 0 < z.length then some (.abx i z, []) else none
        | none => some (.ah z, [])
      | none => none
    | none => none
  | .box t x =>
    match size? P t with
    | some n => match o.dst with
      | some d => match C.B.idxOf? d with
        | some i => if 0 < n then cArgs C [x] (.bbx i n) else none
        | none => cArgs C [x] (.bh n)
      | none => none
    | none => none
  | .build t parts =>
    match zero? P t, P.underlying t with
    | some z, some (.struct fs) => match places P fs.toList with
      | some ps => match pickPlaces ps parts.toList with
        | some qs => cArgs C (parts.toList.map (·.2)) (.bd z qs)
        | none => none
      | none => none
    | _, _ => none
  | .buildSlice t len parts =>
    match elem? P t with
    | some e => match zero? P e with
      | some z => if 0 < z.length then cArgs C (parts.toList.map (·.2)) (.bs len z.length z (parts.toList.map fun p => (p.1 * z.length, z.length))) else none
      | none => none
    | none => none
  | .load t a =>
    match size? P t, agg? P t with
    | some n, some g => if 0 < n && (g || n == 1) then cArgs C [a] (.ld n g) else none
    | _, _ => none
  | .store t a x =>
    match size? P t with
    | some n => if 0 < n then cArgs C [a, x] (.st n) else none
    | none => none
  | .nilCheck x => cArgs C [x] .nc
  | .binOp op t x y _ =>
    match ety P t with
    | some e => cArgs C [x, y] (.bin op e)
    | none => none
  | .unOp .not _ x => cArgs C [x] .not
  | .unOp .neg _ x => cArgs C [x] .neg
  | .convert s d x =>
    match P.underlying s, P.underlying d with
    | some (.int _), some (.int k) => cArgs C [x] (.cvi k)
    | some .string, some (.slice e) => match P.underlying e with
      | some (.int .u8) => cArgs C [x] .cvs
      | _ => none
    | _, _ => none
  | .makeFunc (.func f) first captured => if first.isEmpty then cArgs C captured.toList (.mf f) else none
  | .makeSlice t l c =>
    match elem? P t with
    | some e => match zero? P e, bytes? P e with
      | some z, some b => if 0 < z.length then cArgs C [l, c] (.mk z b) else none
      | _, _ => none
    | none => none
  | .slice t x lo hi none =>
    match P.underlying t with
    | some (.slice e) => match size? P e with
      | some s => cArgs C ([x] ++ lo.toList ++ hi.toList) (.sl lo.isSome hi.isSome s)
      | none => none
    | _ => none
  | .fieldAddr s x f =>
    match P.underlying s with
    | some (.struct fs) => match fs[f]? with
      | some fd => match size? P fd.type with
        | some (_ + 1) => cArgs C [x] (.fa fd.offset)
        | _ => none
      | none => none
    | _ => none
  | .indexAddr t x i =>
    match P.underlying t with
    | some (.slice e) => match size? P e with
      | some s => cArgs C [x, i] (.ia s)
      | none => none
    | _ => none
  | .extract x i => cArgs C [x] (.ex i)
  | .call c => cCall P C c
  | _ => none

def cGuard (ops : Array Oper) (o : Oper) : Option (Option (Nat × Bool)) :=
  match o.guard with
  | none => some none
  | some (j, b) => match (ops[j]?).bind (·.dst) with
    | some d => some (some (d, b))
    | none => none

def makes : Op → Bool
  | .alloc _ => true
  | .box _ _ => true
  | _ => false

/-- A box's temporary is written by its making alone. -/
def dstOk (C : Cfg) (o : Oper) (g : Option (Nat × Bool)) : Bool :=
  match o.dst with
  | some d => decide (d < C.nt) && (!C.B.contains d || (g.isNone && makes o.op))
  | none => true

/-- An operation that has no place in the small machine stands as one that cannot be done. -/
def cOper (P : Program) (C : Cfg) (ops : Array Oper) (o : Oper) : Option IOp :=
  match cGuard ops o with
  | some g =>
    if dstOk C o g = true then
      some (match cOp P C o with
        | some (k, xs) => ⟨o.dst, k, xs, g⟩
        | none => ⟨o.dst, .bad, [], g⟩)
    else none
  | none => none

def cOpers (P : Program) (C : Cfg) (ops : Array Oper) : List Oper → Option (List IOp)
  | [] => some []
  | o :: os => match cOper P C ops o, cOpers P C ops os with
    | some x, some xs => some (x :: xs)
    | _, _ => none

def keepOf (C : Cfg) : List Oper → List (Nat × Nat)
  | [] => []
  | o :: os => match o.dst with
    | some d => match C.K.idxOf? d with
      | some k => (d, k) :: keepOf C os
      | none => keepOf C os
    | none => keepOf C os

/-- Everything that is known of an order: for each operation the operations that stand ahead of it in every order (as a bit set). -/
def ancs (ops : List Oper) : List Nat :=
  ops.foldl (init := []) fun acc o =>
    acc ++ [o.after.foldl (fun s e => if Region.binds .any e then s ||| 2 ^ e.on ||| acc.getD e.on 0 else s) 0]

/-- Memory that an operation touches: no memory, reads (and may make), writes. -/
def memClass : IK → Nat
  | .ld _ _ | .app _ _ | .appz _ _ | .call _ | .callv | .ah _ | .bh _ | .bs _ _ _ _ | .mk _ _ | .cvs | .sl _ _ _ => 1
  | .st _ => 2
  | _ => 0

/-- The box whose place an operand is. -/
def boxOf (A : List (Nat × Nat)) : IOpd → Option Nat
  | .b t _ => some t
  | .l d => A.lookup d
  | .v _ d => A.lookup d
  | .c _ => none

def isFa : IK → Bool
  | .fa _ => true
  | _ => false

/-- The temporaries that hold addresses of boxes, with the box. -/
def adrs : List IOp → List (Nat × Nat) → List (Nat × Nat)
  | [], A => A
  | o :: os, A =>
    match o.dst, isFa o.k, o.args with
    | some d, true, [x] => match boxOf A x with
      | some t => adrs os ((d, t) :: A)
      | none => adrs os A
    | _, _, _ => adrs os A

/-- The box that an operation touches, and whether it writes it; what reads no heap is told apart. -/
def touch (A : List (Nat × Nat)) (o : IOp) : Option (Nat × Bool) :=
  match o.k, o.args with
  | .ld _ _, [x] => (boxOf A x).map fun t => (t, false)
  | .fa _, [x] => (boxOf A x).map fun t => (t, false)
  | .st _, x :: _ => (boxOf A x).map fun t => (t, true)
  | .abx t _, _ => some (t, true)
  | .bbx t _, _ => some (t, true)
  | _, _ => none

def rdTmps (o : IOp) : List Nat :=
  (o.args.filterMap fun | .l d => some d | .v _ d => some d | .b _ d => some d | .c _ => none) ++ (match o.guard with | some (d, _) => [d] | none => [])

/-- Does the operation touch the heap? -/
def heapy (A : List (Nat × Nat)) (o : IOp) : Bool := (touch A o).isNone && decide (0 < memClass o.k)

/-- Two operations, the first of which stands ahead in the text, that may not change places. -/
def clash (A : List (Nat × Nat)) (x y : IOp) : Bool :=
  (match x.dst with | some d => (rdTmps y).contains d || y.dst == some d | none => false) ||
  (match y.dst with | some d => (rdTmps x).contains d | none => false) ||
  (match touch A x, touch A y with | some (t, a), some (u, b) => t == u && (a || b) | _, _ => false)

def isLd : IK → Bool
  | .ld _ _ => true
  | _ => false

def isApp : IK → Bool
  | .app _ _ => true
  | _ => false

def preds (an : List Nat) (j i : Nat) : Bool := (an.getD j 0).testBit i

/-- The last operation, and one more, that may come ahead of another that touches the heap and stands ahead of it in the text (reads ahead of an append left out). -/
def firstW (A : List (Nat × Nat)) (an : List Nat) (ios : List IOp) : Nat :=
  ((List.range ios.length).filter fun j => (List.range j).any fun i =>
    match ios[i]?, ios[j]? with
    | some x, some y => heapy A x && heapy A y && !preds an j i && !(isLd x.k && isApp y.k)
    | _, _ => false).foldl (fun _ j => j + 1) 0

/-- The reads that may come behind an operation that stands behind them in the text. -/
def lates (A : List (Nat × Nat)) (an : List Nat) (ios : List IOp) (n : Nat) : List Nat :=
  (List.range ios.length).filter fun i => (List.range ios.length).any fun j => decide (n ≤ j) && decide (i < j) &&
    match ios[i]?, ios[j]? with
    | some x, some y => heapy A x && heapy A y && !preds an j i
    | _, _ => false

def makesBox : IK → Option Nat
  | .abx t _ => some t
  | .bbx t _ => some t
  | _ => none

def usesBox (t : Nat) (o : IOp) : Bool := o.args.any fun | .b u _ => u == t | _ => false

def dsts (ios : List IOp) : List Nat := ios.filterMap (·.dst)

def orderOk (ops : List Oper) (ios : List IOp) (n : Nat) (late : List Nat) : Bool :=
  let A := adrs ios []
  let an := ancs ops
  decide ((dsts ios).Nodup) &&
  ((List.range ops.length).all fun j => match ops[j]? with
    | some o => o.after.all fun e => !Region.binds .any e || decide (e.on < j)
    | none => true) &&
  (List.range ios.length).all fun j => (List.range j).all fun i =>
    match ios[i]?, ios[j]? with
    | some x, some y =>
      (!clash A x y || preds an j i) &&
      (match makesBox y.k with | some t => !usesBox t x | none => true) &&
      (!isFa y.k || (match y.dst with | some d => !(rdTmps x).contains d | none => true)) &&
      (!(decide (n ≤ j) && heapy A x && heapy A y) || preds an j i || (isLd x.k && late.contains i))
    | _, _ => true

/-- A region: its operations, what is kept, and, where its order is drawn, from which operation on the heap is touched in the text's order, and the reads that may come late. -/
def cReg (P : Program) (C : Cfg) (ops : Array Oper) (draw : Bool) : Option (List IOp × List (Nat × Nat) × Option (Nat × List Nat)) :=
  match cOpers P C ops ops.toList with
  | some ios =>
    if draw then
      let A := adrs ios []
      let an := ancs ops.toList
      let n := firstW A an ios
      let late := lates A an ios n
      if orderOk ops.toList ios n late then some (ios, keepOf C ops.toList, some (n, late)) else none
    else some (ios, keepOf C ops.toList, none)
  | none => none

def cCode (P : Program) (C : Cfg) : Code → Option IC
  | .skip => some .skip
  | .region _ ops draw => match cReg P C ops draw with
    | some (ios, keep, none) => some (.reg ios keep none)
    | some (ios, keep, some (n, [])) => some (.reg ios keep (some n))
    | some (ios, keep, some (n, late)) => some (.regl ios keep n late)
    | none => none
  | .seq (.region _ ops draw) (.cond c a b) =>
    match cReg P C ops draw, cOpd C c, cCode P C a, cCode P C b with
    | some (ios, keep, none), some c, some a, some b => some (.regc ios keep none c a b)
    | some (ios, keep, some (n, [])), some c, some a, some b => some (.regc ios keep (some n) c a b)
    | _, _, _, _ => none
  | .seq a b => match cCode P C a, cCode P C b with
    | some a, some b => some (.seq a b)
    | _, _ => none
  | .cond c a b => match cOpd C c, cCode P C a, cCode P C b with
    | some c, some a, some b => some (.cond c a b)
    | _, _, _ => none
  | .block i a => (cCode P C a).map (.block i)
  | .loop a => (cCode P C a).map .loop
  | .exit i => some (.exit i)
  | .ret => some .ret
  | _ => none

def cRes (P : Program) (C : Cfg) : List ResultVar → Option (List IRes)
  | [] => some []
  | .tmp t :: rs => match C.K.idxOf? t, cRes P C rs with
    | some k, some r => some (.v k t :: r)
    | _, _ => none
  | .cell d t :: rs => match C.B.idxOf? d, agg? P t, size? P t, cRes P C rs with
    | some i, some g, some n, some r => if 0 < n && (g || n == 1) then some (.b i d n g :: r) else none
    | _, _, _, _ => none

/-- The function's small code: its parameters are the first of the kept temporaries. -/
def compile (P : Program) (fn : Func) (K B : List Nat) : Option IFun :=
  let C : Cfg := ⟨List.range (fn.params.size + fn.nfree) ++ K, B, fn.ntmps⟩
  if (C.K ++ C.B).all (fun d => decide (d < fn.ntmps)) && decide ((C.K ++ C.B).Nodup) then
    match fn.body with
    | some c => match cCode P C c, cRes P C fn.results.toList with
      | some b, some r => some ⟨fn.params.size + fn.nfree, r, b⟩
      | _, _ => none
    | none => none
  else none

end Go.Proofs.Ytpnbojehfngigaa.IM

/- The ideal machine: how an ideal state stands to the real one, and what a run of the small code is. Definitions only. -/
namespace Go.Proofs.Ytpnbojehfngigaa.IM
open Go

/-- Where an ideal block lies: the real block, its first cell, the real block's size, the size of an element. -/
structure Loc where
  r : Nat
  base : Nat
  lim : Nat
  sz : Nat

abbrev Inj := Nat → Option Loc

inductive LRel {α β : Type} (R : α → β → Prop) : List α → List β → Prop where
  | nil : LRel R [] []
  | cons {x : α} {y : β} {xs : List α} {ys : List β} : R x y → LRel R xs ys → LRel R (x :: xs) (y :: ys)

inductive PRel (ι : Inj) : Value → Value → Prop where
  | nul : PRel ι (.pointer none) (.pointer none)
  | ptr {b o : Nat} {L : Loc} : ι b = some L → PRel ι (.pointer (some ⟨b, o, none⟩)) (.pointer (some ⟨L.r, L.base + o, none⟩))

/-- One cell. -/
inductive CRel (ι : Inj) : Value → Value → Prop where
  | bool (b : Bool) : CRel ι (.bool b) (.bool b)
  | int (k : IntKind) (n : Int) : CRel ι (.int k n) (.int k n)
  | str (s : ByteArray) : CRel ι (.string s) (.string s)
  | ptr {x y : Value} : PRel ι x y → CRel ι x y
  | snil : CRel ι (.slice none 0 0) (.slice none 0 0)
  | sl {b o n c c' ro : Nat} {L : Loc} : ι b = some L → n ≤ c → c ≤ c' → (c' = 0 ∨ ro = L.base + o) → ro + c' * L.sz ≤ L.lim →
      CRel ι (.slice (some ⟨b, o, none⟩) n c) (.slice (some ⟨L.r, ro, none⟩) n c')
  | fn {f : Nat} {xs ys : List Value} : LRel (PRel ι) xs ys → CRel ι (.func (.func f) #[] xs.toArray) (.func (.func f) #[] ys.toArray)

inductive V1Rel (ι : Inj) : Value → Value → Prop where
  | cell {x y : Value} : CRel ι x y → V1Rel ι x y
  | agg {xs ys : List Value} : LRel (CRel ι) xs ys → V1Rel ι (.agg xs.toArray) (.agg ys.toArray)

inductive VRel (ι : Inj) : EV → Value → Prop where
  | one {x y : Value} : V1Rel ι x y → VRel ι (.val x) y
  | tup {xs ys : List Value} : LRel (V1Rel ι) xs ys → VRel ι (.tup xs) (.tuple ys.toArray)

structure BlkAt (ι : Inj) (w : World) (L : Loc) (B : Blk) : Prop where
  ex : ∃ C e fz, w.heap[L.r]? = some (.cells C e fz) ∧ C.size = L.lim ∧ (B.rw = true → fz = (0, 0)) ∧
    ∀ i c, B.cells[i]? = some c → ∃ x, C[L.base + i]? = some x ∧ CRel ι c x
  room : L.base + B.cells.length ≤ L.lim
  sz : B.sz = L.sz
  void : B.rw = true → B.cells = [] → L.lim ≤ L.base

structure Sim (ι : Inj) (H : Heap) (w : World) : Prop where
  dom : ∀ b L, ι b = some L → b < H.length ∧ L.r < w.heap.size
  blk : ∀ b L B, ι b = some L → H.get b = some B → BlkAt ι w L B
  inj : ∀ b b' L L' B B', ι b = some L → ι b' = some L' → H.get b = some B → H.get b' = some B' → L.r = L'.r → b = b'

/-- A block that may be written. -/
def Heap.live (H : Heap) (b : Nat) : Prop := ∃ B, H.get b = some B ∧ B.rw = true

/-- From one real world to a later one, by code that holds what ι tells of; the rows of E are left out. -/
structure Ext (E : Nat → Prop) (ι ι' : Inj) (H H' : Heap) (w w' : World) : Prop where
  len : H.length ≤ H'.length
  dead : ∀ b, b < H.length → H'.live b → H.live b
  old : ∀ b, b < H.length → ι' b = ι b
  new : ∀ b L, H.length ≤ b → ι' b = some L → w.heap.size ≤ L.r ∨ ∃ b0 L0, b0 < H.length ∧ ι b0 = some L0 ∧ H.live b0 ∧ L0.r = L.r
  os : w'.os = w.os
  tape : w'.tape = w.tape
  output : w'.output = w.output
  size : w.heap.size ≤ w'.heap.size
  keep : ∀ r, r < w.heap.size → (∀ b L, b < H.length → ι b = some L → H.live b → L.r ≠ r) → ¬ E r → w'.heap[r]? = w.heap[r]?

def noE : Nat → Prop := fun _ => False

def Callable (P : Program) (f : Nat) : Prop := ∃ fn, P.funcs[f]? = some fn ∧ fn.body.isSome = true ∧ (fn.name == "runtime.NumGoroutine") = false

/-- In every real world that holds the ideal heap the call gives just this. -/
def DetCall (P : Program) (f : Nat) (args : List Value) (H : Heap) (res : List Value) (H' : Heap) : Prop :=
  Callable P f ∧
  ∀ (ι : Inj) (w : World) (vargs : List Value), Sim ι H w → LRel (V1Rel ι) args vargs →
    Calls P f vargs.toArray w fun e w' => ∃ v ι', e = .returned v ∧ VRel ι' (resEV res) v ∧ Sim ι' H' w' ∧ Ext noE ι ι' H H' w w'

def ICall (P : Program) (f : Nat) (args : List Value) (H : Heap) (Q : List Value → Heap → Prop) : Prop :=
  ∃ res H', DetCall P f args H res H' ∧ Q res H'

/-- Nothing that was there has another content. -/
def Gent (H H' : Heap) : Prop := H.length ≤ H'.length ∧ ∀ b, b < H.length → H'.get b = H.get b

def clr1 (u : Nat) : EV → EV
  | .adr t o => if t = u then .non else .adr t o
  | x => x

def clr : Env → Nat → Env
  | [], _ => []
  | (d, x) :: e, u => (d, clr1 u x) :: clr e u

def clrk : IK → Env → Env
  | .abx t _, e => clr e t
  | .bbx t _, e => clr e t
  | _, e => e

inductive Step1 (P : Program) (vs : List (Option Value)) (o : IOp) (env : Env) (bx : List (List Value)) (H : Heap) : Env → List (List Value) → Heap → Prop where
  | skip : want env o.guard = some false → Step1 P vs o env bx H (bind1 env o.dst none) bx H
  | exec {xs : List EV} {x : Option EV} {bx' : List (List Value)} {H' : Heap} : want env o.guard = some true → evs env vs o.args = some xs → okArgs o.k xs = true → iexec o.k xs bx H = some (x, bx', H') →
      Step1 P vs o env bx H (bind1 (clrk o.k env) o.dst x) bx' H'
  | call {xs : List EV} {args : List Value} {f : Nat} {r : List Value} {H' : Heap} : want env o.guard = some true → evs env vs o.args = some xs → iexec.allV xs = some args → o.k = .call f →
      DetCall P f args H r H' → Step1 P vs o env bx H (bind1 env o.dst (some (resEV r))) bx H'
  | callv {xs : List EV} {args cap : List Value} {f : Nat} {r : List Value} {H' : Heap} : want env o.guard = some true → evs env vs o.args = some xs →
      iexec.allV xs = some (.func (.func f) #[] cap.toArray :: args) → o.k = .callv →
      DetCall P f (args ++ cap) H r H' → Step1 P vs o env bx H (bind1 env o.dst (some (resEV r))) bx H'

inductive Run1 (P : Program) (vs : List (Option Value)) : Nat → List IOp → Env → List (List Value) → Heap → Env → List (List Value) → Heap → Prop where
  | nil {n : Nat} {env : Env} {bx : List (List Value)} {H : Heap} : Run1 P vs n [] env bx H env bx H
  | cons {n : Nat} {o : IOp} {os : List IOp} {env env1 env2 : Env} {bx bx1 bx2 : List (List Value)} {H H1 H2 : Heap} :
      Step1 P vs o env bx H env1 bx1 H1 → (n ≠ 0 → Gent H H1) → Run1 P vs (n - 1) os env1 bx1 H1 env2 bx2 H2 → Run1 P vs n (o :: os) env bx H env2 bx2 H2

/-- What the operations of a region come to. -/
def WOps (P : Program) (vs : List (Option Value)) : List IOp → Nat → Env → List (List Value) → Heap → (Env → List (List Value) → Heap → Prop) → Prop
  | [], _, env, bx, H, Q => Q env bx H
  | o :: os, n, env, bx, H, Q =>
    match want env o.guard with
    | none => False
    | some b =>
      (b = false → WOps P vs os (n - 1) (bind1 env o.dst none) bx H Q) ∧
      (b = true → match evs env vs o.args with
        | none => False
        | some xs =>
          match o.k with
          | .call f => match iexec.allV xs with
            | some args => ICall P f args H fun r H' => (n ≠ 0 → Gent H H') ∧ WOps P vs os (n - 1) (bind1 env o.dst (some (resEV r))) bx H' Q
            | none => False
          | .callv => match iexec.allV xs with
            | some (.func (.func f) ⟨[]⟩ cap :: args) => ICall P f (args ++ cap.toList) H fun r H' => (n ≠ 0 → Gent H H') ∧ WOps P vs os (n - 1) (bind1 env o.dst (some (resEV r))) bx H' Q
            | _ => False
          | k => if okArgs k xs = true then match iexec k xs bx H with
            | some (x, bx', H') => (n ≠ 0 → Gent H H') ∧ WOps P vs os (n - 1) (bind1 (clrk k env) o.dst x) bx' H' Q
            | none => False
            else False)

/-- The frame's own part of the real state: kept temporaries, boxes. W0, ι0, H0: the world, the places and the ideal heap when the function was entered. -/
structure FR (P : Program) (C : Cfg) (ι0 : Inj) (H0 : Heap) (W0 : World) (ι : Inj) (st : St) (a : Act) (w : World) : Prop where
  defers : a.defers = []
  size : a.tmps.size = C.nt
  sim : Sim ι st.h w
  ext : Ext noE ι0 ι H0 st.h W0 w
  vars : ∀ (k d : Nat) (x : Value), C.K[k]? = some d → st.v[k]? = some (some x) → ∃ y, a.tmps[d]? = some y ∧ V1Rel ι x y
  nv : st.v.length = C.K.length
  nb : st.bx.length = C.B.length
  box : ∀ (t d : Nat) (cs : List Value), C.B[t]? = some d → st.bx[t]? = some cs → cs ≠ [] →
    ∃ r Cs e, a.tmps[d]? = some (.pointer (some ⟨r, 0, none⟩)) ∧ w.heap[r]? = some (.cells Cs e (0, 0)) ∧ LRel (CRel ι) cs Cs.toList ∧ (∀ b L, ι b = some L → L.r ≠ r) ∧ W0.heap.size ≤ r
  apart : ∀ (t t' d d' : Nat) (cs cs' : List Value) (r : Nat), C.B[t]? = some d → C.B[t']? = some d' → st.bx[t]? = some cs → st.bx[t']? = some cs' → cs ≠ [] → cs' ≠ [] →
    a.tmps[d]? = some (.pointer (some ⟨r, 0, none⟩)) → a.tmps[d']? = some (.pointer (some ⟨r, 0, none⟩)) → t = t'

def IExit.to : IExit → Exit
  | .normal => .normal
  | .exit i => .exit i
  | .ret => .ret

/-- The code comes to just this state, in every real state that holds the ideal one. -/
def Det (P : Program) (C : Cfg) (ic : IC) (st : St) (e : IExit) (st' : St) : Prop :=
  ∀ c : Code, cCode P C c = some ic → ∀ (ι0 : Inj) (H0 : Heap) (W0 : World) (ι : Inj) (a : Act) (w : World), FR P C ι0 H0 W0 ι st a w →
    c.wp P (fun e' a' w' => e' = e.to ∧ ∃ ι', FR P C ι0 H0 W0 ι' st' a' w') a w

def W (P : Program) (C : Cfg) (ic : IC) (st : St) (Q : IExit → St → Prop) : Prop := ∃ e st', Det P C ic st e st' ∧ Q e st'

end Go.Proofs.Ytpnbojehfngigaa.IM

/- The ideal machine: what reads, stores, new blocks and appends do to the real memory that holds an ideal heap. -/
namespace Go.Proofs.Ytpnbojehfngigaa.IM
open Go
set_option linter.unusedVariables false
set_option linter.unusedSimpArgs false

/-! ### lists side by side -/

theorem LRel.len {α β : Type} {R : α → β → Prop} {xs : List α} {ys : List β} (h : LRel R xs ys) : xs.length = ys.length := by
  induction h with
  | nil => rfl
  | cons _ _ ih => simp [ih]

theorem LRel.mono {α β : Type} {R S : α → β → Prop} {xs : List α} {ys : List β} (h : LRel R xs ys) (hs : ∀ x y, R x y → S x y) : LRel S xs ys := by
  induction h with
  | nil => exact .nil
  | cons h _ ih => exact .cons (hs _ _ h) ih

theorem LRel.get {α β : Type} {R : α → β → Prop} {xs : List α} {ys : List β} (h : LRel R xs ys) : ∀ (i : Nat) (x : α), xs[i]? = some x → ∃ y, ys[i]? = some y ∧ R x y := by
  induction h with
  | nil => intro i x hx; simp at hx
  | cons hr _ ih =>
    intro i x hx
    cases i with
    | zero => simp at hx; subst hx; exact ⟨_, by simp, hr⟩
    | succ i => simp at hx; obtain ⟨y, h1, h2⟩ := ih i x hx; exact ⟨y, by simpa using h1, h2⟩

theorem LRel.of_get {α β : Type} {R : α → β → Prop} : ∀ (xs : List α) (ys : List β), xs.length = ys.length → (∀ (i : Nat) (x : α) (y : β), xs[i]? = some x → ys[i]? = some y → R x y) → LRel R xs ys
  | [], [], _, _ => .nil
  | [], _ :: _, h, _ => by simp at h
  | _ :: _, [], h, _ => by simp at h
  | x :: xs, y :: ys, h, hr => .cons (hr 0 x y rfl rfl) (LRel.of_get xs ys (by simpa using h) fun i x y h1 h2 => hr (i + 1) x y (by simpa using h1) (by simpa using h2))

theorem LRel.append {α β : Type} {R : α → β → Prop} {xs xs' : List α} {ys ys' : List β} (h : LRel R xs ys) (h' : LRel R xs' ys') : LRel R (xs ++ xs') (ys ++ ys') := by
  induction h with
  | nil => exact h'
  | cons h _ ih => exact .cons h ih

theorem LRel.take {α β : Type} {R : α → β → Prop} {xs : List α} {ys : List β} (h : LRel R xs ys) : ∀ n, LRel R (xs.take n) (ys.take n) := by
  induction h with
  | nil => intro n; simp; exact .nil
  | cons h _ ih => intro n; cases n with
    | zero => exact .nil
    | succ n => exact .cons h (ih n)

theorem LRel.drop {α β : Type} {R : α → β → Prop} {xs : List α} {ys : List β} (h : LRel R xs ys) : ∀ n, LRel R (xs.drop n) (ys.drop n) := by
  induction h with
  | nil => intro n; simp; exact .nil
  | cons h t ih => intro n; cases n with
    | zero => exact .cons h t
    | succ n => exact ih n

/-! ### places grow -/

def Sub (ι ι' : Inj) : Prop := ∀ b L, ι b = some L → ι' b = some L
theorem Sub.refl (ι : Inj) : Sub ι ι := fun _ _ h => h
theorem Sub.trans {a b c : Inj} (h : Sub a b) (k : Sub b c) : Sub a c := fun _ _ x => k _ _ (h _ _ x)

theorem PRel.mono {ι ι' : Inj} (hs : Sub ι ι') {x y : Value} (h : PRel ι x y) : PRel ι' x y := by
  cases h with
  | nul => exact .nul
  | ptr h => exact .ptr (hs _ _ h)

theorem CRel.mono {ι ι' : Inj} (hs : Sub ι ι') {x y : Value} (h : CRel ι x y) : CRel ι' x y := by
  cases h with
  | bool b => exact .bool b
  | int k n => exact .int k n
  | str s => exact .str s
  | ptr h => exact .ptr (h.mono hs)
  | snil => exact .snil
  | sl h a b c d => exact .sl (hs _ _ h) a b c d
  | fn h => exact .fn (h.mono fun _ _ h => h.mono hs)

theorem V1Rel.mono {ι ι' : Inj} (hs : Sub ι ι') {x y : Value} (h : V1Rel ι x y) : V1Rel ι' x y := by
  cases h with
  | cell h => exact .cell (h.mono hs)
  | agg h => exact .agg (h.mono fun _ _ h => h.mono hs)

theorem VRel.mono {ι ι' : Inj} (hs : Sub ι ι') {x : EV} {y : Value} (h : VRel ι x y) : VRel ι' x y := by
  cases h with
  | one h => exact .one (h.mono hs)
  | tup h => exact .tup (h.mono fun _ _ h => h.mono hs)

theorem CRel.one {ι : Inj} {x y : Value} (h : CRel ι x y) : y.oneCell' = true := by
  cases h with
  | ptr h => cases h <;> rfl
  | _ => rfl

theorem CRel.one_l {ι : Inj} {x y : Value} (h : CRel ι x y) : x.oneCell' = true := by
  cases h with
  | ptr h => cases h <;> rfl
  | _ => rfl

theorem V1Rel.cl {ι : Inj} {x y : Value} (h : V1Rel ι x y) : LRel (CRel ι) (cl x) y.cells.toList := by
  cases h with
  | cell h =>
    have h1 := h.one; have h2 := h.one_l
    have e : ∀ v : Value, v.oneCell' = true → v.cells = #[v] := by intro v hv; cases v <;> simp [Value.oneCell'] at hv <;> rfl
    unfold IM.cl; rw [e _ h1, e _ h2]; exact .cons h .nil
  | agg h => simpa [IM.cl, Value.cells] using h

theorem LRel.one {ι : Inj} {xs ys : List Value} (h : LRel (CRel ι) xs ys) : ∀ v ∈ ys, v.oneCell' = true := by
  induction h with
  | nil => intro v hv; simp at hv
  | cons h _ ih => intro v hv; simp at hv; rcases hv with rfl | hv; exact h.one; exact ih v hv

theorem Ext.sub {E : Nat → Prop} {ι ι' : Inj} {H H' : Heap} {w w' w0 : World} (h : Ext E ι ι' H H' w w') (hs : Sim ι H w0) : Sub ι ι' := fun b L hb => by
  rw [h.old b (hs.dom b L hb).1]; exact hb

theorem Ext.refl (E : Nat → Prop) (ι : Inj) (H : Heap) (w w0 : World) (hs : Sim ι H w0) : Ext E ι ι H H w w :=
  ⟨Nat.le_refl _, fun _ _ h => h, fun _ _ => rfl, fun b L h1 h2 => absurd (hs.dom b L h2).1 (by omega), rfl, rfl, rfl, Nat.le_refl _, fun _ _ _ _ => rfl⟩

theorem Ext.trans {E : Nat → Prop} {ι ι1 ι2 : Inj} {H H1 H2 : Heap} {w w1 w2 : World} (h : Ext E ι ι1 H H1 w w1) (k : Ext noE ι1 ι2 H1 H2 w1 w2) : Ext E ι ι2 H H2 w w2 where
  len := Nat.le_trans h.len k.len
  dead b hb hd := h.dead b hb (k.dead b (Nat.lt_of_lt_of_le hb h.len) hd)
  old b hb := by rw [k.old b (Nat.lt_of_lt_of_le hb h.len), h.old b hb]
  new b L hb hL := by
    have back : ∀ b0 L0, b0 < H1.length → ι1 b0 = some L0 → H1.live b0 → L0.r = L.r → w.heap.size ≤ L.r ∨ ∃ b1 L1, b1 < H.length ∧ ι b1 = some L1 ∧ H.live b1 ∧ L1.r = L.r := by
      intro b0 L0 h1 h2 h3 h4
      by_cases hb0 : b0 < H.length
      · exact .inr ⟨b0, L0, hb0, by rw [← h.old b0 hb0]; exact h2, h.dead b0 hb0 h3, h4⟩
      · rcases h.new b0 L0 (by omega) h2 with h5 | ⟨b1, L1, h5, h6, h7, h8⟩
        · exact .inl (h4 ▸ h5)
        · exact .inr ⟨b1, L1, h5, h6, h7, h8.trans h4⟩
    by_cases hb1 : b < H1.length
    · rw [k.old b hb1] at hL
      exact h.new b L hb hL
    · rcases k.new b L (by omega) hL with h1 | ⟨b0, L0, h1, h2, h3, h4⟩
      · exact .inl (Nat.le_trans h.size h1)
      · exact back b0 L0 h1 h2 h3 h4
  os := k.os.trans h.os
  tape := k.tape.trans h.tape
  output := k.output.trans h.output
  size := Nat.le_trans h.size k.size
  keep r hr hn hE := by
    rw [k.keep r (Nat.lt_of_lt_of_le hr h.size) ?_ (fun h => h), h.keep r hr hn hE]
    intro b L hb hL ha e
    by_cases hb0 : b < H.length
    · exact hn b L hb0 (by rw [← h.old b hb0]; exact hL) (h.dead b hb0 ha) e
    · rcases h.new b L (by omega) hL with h1 | ⟨b0, L0, h1, h2, h3, h4⟩
      · omega
      · exact hn b0 L0 h1 h2 h3 (h4.trans e)

/-- A world of the same memory. -/
theorem Ext.of_heap {E : Nat → Prop} {ι : Inj} {H : Heap} {w w' w0 : World} (hs : Sim ι H w0) (h : w'.heap = w.heap) (h1 : w'.os = w.os) (h2 : w'.tape = w.tape) (h3 : w'.output = w.output) : Ext E ι ι H H w w' :=
  ⟨Nat.le_refl _, fun _ _ h => h, fun _ _ => rfl, fun b L h1 h2 => absurd (hs.dom b L h2).1 (by omega), h1, h2, h3, by rw [h]; exact Nat.le_refl _, fun _ _ _ _ => by rw [h]⟩

theorem BlkAt.of_heap {ι : Inj} {w w' : World} {L : Loc} {B : Blk} (h : BlkAt ι w L B) (he : w'.heap[L.r]? = w.heap[L.r]?) : BlkAt ι w' L B := ⟨by rw [he]; exact h.ex, h.room, h.sz, h.void⟩

theorem Sim.of_heap {ι : Inj} {H : Heap} {w w' : World} (h : Sim ι H w) (he : w'.heap = w.heap) : Sim ι H w' :=
  ⟨by rw [he]; exact h.dom, fun b L B h1 h2 => (h.blk b L B h1 h2).of_heap (by rw [he]), h.inj⟩

theorem BlkAt.mono {ι ι' : Inj} (hs : Sub ι ι') {w : World} {L : Loc} {B : Blk} (h : BlkAt ι w L B) : BlkAt ι' w L B := by
  obtain ⟨⟨C, e, fz, h1, h2, h3, h4⟩, h5, h6, h7⟩ := h
  refine ⟨⟨C, e, fz, h1, h2, h3, fun i c hc => ?_⟩, h5, h6, h7⟩
  obtain ⟨x, hx, hr⟩ := h4 i c hc
  exact ⟨x, hx, hr.mono hs⟩

/-! ### the heap's words -/

theorem Heap.get_lt {H : Heap} {b : Nat} {B : Blk} (h : H.get b = some B) : b < H.length := by
  unfold Heap.get at h
  split at h
  · rename_i k hk; exact (List.getElem?_eq_some_iff.1 hk).1
  · simp at h

theorem Heap.get_new (H : Heap) (B : Blk) : Heap.get (H ++ [some B]) H.length = some B := by simp [Heap.get]

theorem Heap.get_old (H : Heap) (x : Option Blk) {b : Nat} (h : b < H.length) : Heap.get (H ++ [x]) b = H.get b := by
  simp [Heap.get, List.getElem?_append_left h]

theorem Heap.get_app {H : Heap} {x : Option Blk} {b : Nat} {B : Blk} (h : Heap.get (H ++ [x]) b = some B) : (b < H.length ∧ H.get b = some B) ∨ (b = H.length ∧ x = some B) := by
  have hl := Heap.get_lt h
  simp at hl
  by_cases hb : b < H.length
  · rw [Heap.get_old H x hb] at h; exact .inl ⟨hb, h⟩
  · have : b = H.length := by omega
    subst this
    refine .inr ⟨rfl, ?_⟩
    cases x with
    | none => simp [Heap.get] at h
    | some y => rw [Heap.get_new] at h; exact h

theorem Heap.get_set_same {H : Heap} {b : Nat} {x : Option Blk} (h : b < H.length) : Heap.get (H.set b x) b = x := by
  simp [Heap.get, h]; cases x <;> rfl

theorem Heap.get_set_ne {H : Heap} {b c : Nat} {x : Option Blk} (h : b ≠ c) : Heap.get (H.set b x) c = H.get c := by
  simp [Heap.get, List.getElem?_set_ne h]

/-! ### reads -/

theorem addr_add (r o j : Nat) : (⟨r, o, none⟩ : Addr).add j = ⟨r, o + j, none⟩ := by unfold Addr.add; split <;> simp_all

theorem cell_of {w : World} {r o : Nat} {C : Array Value} {e : TypeId} {fz : Nat × Nat} (h : w.heap[r]? = some (.cells C e fz)) : w.cell? ⟨r, o, none⟩ = C[o]? := by
  simp [World.cell?, h]

theorem Sim.rd {ι : Inj} {H : Heap} {w : World} (hs : Sim ι H w) {p y : Value} (hp : PRel ι p y) {n : Nat} {cs : List Value} (h : H.rd p n = some cs) :
    ∃ r o ys, y = .pointer (some ⟨r, o, none⟩) ∧ LRel (CRel ι) cs ys ∧ ys.length = n ∧ ∀ j v, ys[j]? = some v → w.cell? ((⟨r, o, none⟩ : Addr).add j) = some v := by
  cases hp with
  | nul => simp [Heap.rd] at h
  | @ptr b o L hL =>
    simp only [Heap.rd] at h
    split at h
    · rename_i B hB
      split at h
      · rename_i hle
        simp only [Option.some.injEq] at h
        obtain ⟨⟨C, e, fz, h1, h2, h3, h4⟩, h5, h6, hvd⟩ := hs.blk b L B hL hB
        have hlen : cs.length = n := by rw [← h]; simp; omega
        refine ⟨L.r, L.base + o, (C.toList.drop (L.base + o)).take n, rfl, ?_, ?_, ?_⟩
        · refine LRel.of_get _ _ (by rw [hlen]; simp; omega) fun i x y hx hy => ?_
          rw [← h, List.getElem?_take] at hx
          split at hx
          · rename_i hin
            rw [List.getElem?_drop] at hx
            obtain ⟨z, hz, hr⟩ := h4 _ _ hx
            rw [List.getElem?_take, if_pos hin, List.getElem?_drop] at hy
            have : z = y := by
              have h7 : C.toList[L.base + o + i]? = some z := by simpa [Nat.add_assoc] using hz
              rw [h7] at hy; simpa using hy
            exact this ▸ hr
          · simp at hx
        · simp; omega
        · intro j v hv
          rw [List.getElem?_take] at hv
          split at hv
          · rw [List.getElem?_drop] at hv
            rw [addr_add, cell_of h1]
            simpa using hv
          · simp at hv
      · simp at h
    · simp at h

theorem Sim.cellsOf {ι : Inj} {H : Heap} {w : World} (hs : Sim ι H w) {p y : Value} (hp : CRel ι p y) {sz : Nat} {cs : List Value} (h : H.cellsOf p sz = some cs) :
    (p = .slice none 0 0 ∧ y = .slice none 0 0 ∧ cs = []) ∨
    ∃ a n c ys, y = .slice (some a) n c ∧ lenS p = n ∧ cs.length = n * sz ∧ LRel (CRel ι) cs ys ∧ ∀ j v, ys[j]? = some v → w.cell? (a.add j) = some v := by
  cases hp with
  | snil => simp [Heap.cellsOf] at h; exact .inl ⟨rfl, rfl, h⟩
  | @sl b o n c c' ro L hL hn hc hro hlim =>
    refine .inr ?_
    simp only [Heap.cellsOf] at h
    split at h
    · rename_i B hB
      split at h
      · rename_i hle
        simp only [Option.some.injEq] at h
        obtain ⟨hsz, hle⟩ := hle
        have hlen : cs.length = n * sz := by rw [← h]; simp; omega
        by_cases hz : c' = 0
        · have hn0 : n = 0 := by omega
          subst hn0
          have : cs = [] := by simpa using hlen
          subst this
          exact ⟨⟨L.r, ro, none⟩, 0, c', [], rfl, rfl, by simp, .nil, fun j v hv => by simp at hv⟩
        · have hro : ro = L.base + o := hro.resolve_left hz
          subst hro
          have hrd : H.rd (.pointer (some ⟨b, o, none⟩)) (n * sz) = some cs := by
            simp only [Heap.rd, hB]; rw [if_pos hle, h]
          obtain ⟨r, o', ys, h1, h2, h3, h4⟩ := hs.rd (PRel.ptr hL) hrd
          simp at h1
          obtain ⟨rfl, rfl⟩ := h1
          exact ⟨⟨L.r, L.base + o, none⟩, n, c', ys, rfl, rfl, hlen, h2, h4⟩
      · simp at h
    · simp at h
  | ptr h' => cases h' <;> simp [Heap.cellsOf] at h
  | _ => simp [Heap.cellsOf] at h

/-! ### stores -/

theorem put_get (l : List Value) (o : Nat) (vs : List Value) (h : o + vs.length ≤ l.length) (i : Nat) :
    (put l o vs)[i]? = if i < o then l[i]? else if i < o + vs.length then vs[i - o]? else l[i]? := by
  unfold put
  by_cases h1 : i < o
  · rw [if_pos h1, List.append_assoc, List.getElem?_append_left (by simp; omega), List.getElem?_take, if_pos h1]
  · rw [if_neg h1]
    by_cases h2 : i < o + vs.length
    · rw [if_pos h2, List.getElem?_append_left (by simp; omega), List.getElem?_append_right (by simp; omega)]
      congr 1; simp; omega
    · rw [if_neg h2, List.getElem?_append_right (by simp; omega), List.getElem?_drop]
      congr 1; simp; omega

theorem put_length (l : List Value) (o : Nat) (vs : List Value) (h : o + vs.length ≤ l.length) : (put l o vs).length = l.length := by
  unfold put; simp; omega

theorem setRow_size (w : World) (g : Nat) (cs : Array Value) : (w.setRow g cs).heap.size = w.heap.size := by simp [World.setRow]

theorem Ext.setRow {E : Nat → Prop} {ι : Inj} {H : Heap} {w : World} {b : Nat} {L : Loc} {B : Blk} (x : Option Blk) {cs : Array Value} (hs : Sim ι H w) (hL : ι b = some L) (hB : H.get b = some B) (hrw : B.rw = true) : Ext E ι ι H (H.set b x) w (w.setRow L.r cs) :=
  ⟨by simp, fun b' hb' ⟨B', h1, h2⟩ => by
    by_cases hbb : b = b'
    · subst hbb; exact ⟨B, hB, hrw⟩
    · rw [Heap.get_set_ne hbb] at h1; exact ⟨B', h1, h2⟩, fun _ _ => rfl, fun b L h1 h2 => absurd (hs.dom b L h2).1 (by omega), rfl, rfl, rfl, by rw [setRow_size]; exact Nat.le_refl _,
   fun r hr hn _ => setRow_other w L.r r cs (by rintro rfl; exact hn b L (hs.dom b L hL).1 hL ⟨B, hB, hrw⟩ rfl)⟩

/-- Cells of one block are written, inside what the ideal block knows or behind it. -/
theorem Sim.wr_at {ι : Inj} {H : Heap} {w : World} (hs : Sim ι H w) {b : Nat} {L : Loc} {B : Blk} (hL : ι b = some L) (hB : H.get b = some B) (hrw : B.rw = true) {o : Nat} {vs ys : List Value}
    (ho : o + vs.length ≤ B.cells.length) (hv : LRel (CRel ι) vs ys) {cur : Array Value} {e : TypeId} (hc : w.heap[L.r]? = some (.cells cur e (0, 0))) :
    Sim ι (H.set b (some { B with cells := put B.cells o vs })) (w.setRow L.r (cur.toList.take (L.base + o) ++ ys ++ cur.toList.drop (L.base + o + ys.length)).toArray) := by
  have hb := Heap.get_lt hB
  obtain ⟨⟨C, e', fz, h1, h2, h3, h4⟩, h5, h6, hvd⟩ := hs.blk b L B hL hB
  rw [hc] at h1; simp only [Option.some.injEq, Obj.cells.injEq] at h1
  obtain ⟨rfl, rfl, rfl⟩ := h1
  have hlv := hv.len
  refine ⟨fun b' L' h => ?_, fun b' L' B' hL' hB' => ?_, fun b1 b2 L1 L2 B1 B2 hb1 hb2 hB1 hB2 he => ?_⟩
  · rw [setRow_size]; simpa using hs.dom b' L' h
  · by_cases hbb : b = b'
    · subst hbb
      rw [Heap.get_set_same hb] at hB'
      simp only [Option.some.injEq] at hB'
      subst hB'
      rw [hL] at hL'; simp only [Option.some.injEq] at hL'; subst hL'
      refine ⟨⟨_, e, (0, 0), setRow_heap w L.r cur _ e (0, 0) hc, ?_, fun _ => rfl, fun i c hci => ?_⟩, ?_, h6, ?_⟩
      · simp; omega
      · simp only [put_get _ _ _ ho] at hci
        have key : ((cur.toList.take (L.base + o) ++ ys ++ cur.toList.drop (L.base + o + ys.length)).toArray)[L.base + i]? = if i < o then cur[L.base + i]? else if i < o + vs.length then ys[i - o]? else cur[L.base + i]? := by
          have := put_get cur.toList (L.base + o) ys (by simp; omega) (L.base + i)
          unfold put at this
          rw [List.getElem?_toArray, this]
          by_cases c1 : i < o
          · rw [if_pos (by omega), if_pos c1]; simp
          · rw [if_neg (by omega), if_neg c1]
            by_cases c2 : i < o + vs.length
            · rw [if_pos (by omega), if_pos c2]; congr 1; omega
            · rw [if_neg (by omega), if_neg c2]; simp
        rw [key]
        by_cases c1 : i < o
        · rw [if_pos c1] at hci ⊢; exact h4 i c hci
        · rw [if_neg c1] at hci ⊢
          by_cases c2 : i < o + vs.length
          · rw [if_pos c2] at hci ⊢; exact hv.get _ _ hci
          · rw [if_neg c2] at hci ⊢; exact h4 i c hci
      · rw [put_length _ _ _ ho]; exact h5
      · intro h7 h8
        refine hvd h7 (List.length_eq_zero_iff.1 ?_)
        have := put_length B.cells o vs ho
        simp only [] at h8
        rw [h8] at this; simpa using this.symm
    · rw [Heap.get_set_ne hbb] at hB'
      have hne : L'.r ≠ L.r := fun he => hbb (hs.inj b b' L L' B B' hL hL' hB hB' he.symm)
      exact (hs.blk b' L' B' hL' hB').of_heap (setRow_other w L.r L'.r _ hne)
  · have g : ∀ b' B', Heap.get (H.set b (some { B with cells := put B.cells o vs })) b' = some B' → ∃ B0, H.get b' = some B0 ∧ B0.rw = B'.rw := by
      intro b' B' h
      by_cases hbb : b = b'
      · subst hbb; rw [Heap.get_set_same hb] at h; simp only [Option.some.injEq] at h; subst h; exact ⟨B, hB, rfl⟩
      · rw [Heap.get_set_ne hbb] at h; exact ⟨B', h, rfl⟩
    obtain ⟨B1', h7, h8⟩ := g b1 B1 hB1
    obtain ⟨B2', h9, _⟩ := g b2 B2 hB2
    exact hs.inj b1 b2 L1 L2 B1' B2' hb1 hb2 h7 h9 he

theorem Sim.wr {ι : Inj} {H H' : Heap} {w : World} (hs : Sim ι H w) {p y : Value} (hp : PRel ι p y) {vs ys : List Value} (h : H.wr p vs = some H') (hv : LRel (CRel ι) vs ys) (P : Program) :
    ∃ r o w', y = .pointer (some ⟨r, o, none⟩) ∧ (storeCells ⟨r, o, none⟩ ys).run P w = .ok () w' ∧ Sim ι H' w' ∧ Ext noE ι ι H H' w w' ∧ H'.length = H.length := by
  cases hp with
  | nul => simp [Heap.wr] at h
  | @ptr b o L hL =>
    simp only [Heap.wr] at h
    split at h
    · rename_i B hB
      split at h
      · rename_i hle
        simp only [Option.some.injEq] at h
        obtain ⟨hrw, hle⟩ := hle
        obtain ⟨⟨C, e, fz, h1, h2, h3, h4⟩, h5, h6, hvd⟩ := hs.blk b L B hL hB
        have := h3 hrw; subst this
        have hl := hv.len
        have hst := run_storeCells_at P L.r (L.base + o) e ys 0 C w h1 (by omega) hv.one
        refine ⟨L.r, L.base + o, _, rfl, hst, ?_, by rw [← h]; exact Ext.setRow _ hs hL hB ‹_›, by rw [← h]; simp⟩
        rw [← h]
        simpa using hs.wr_at hL hB hrw hle hv h1
      · simp at h
    · simp at h

/-! ### new blocks -/

def updI (ι : Inj) (n : Nat) (L : Loc) : Inj := fun b => if b = n then some L else ι b

theorem Sim.subI {ι : Inj} {H : Heap} {w : World} (hs : Sim ι H w) (L : Loc) : Sub ι (updI ι H.length L) := fun b L' h => by
  have := (hs.dom b L' h).1
  unfold updI; rw [if_neg (by omega)]; exact h

theorem alloc_heap (w : World) (o : Obj) : (w.alloc o).heap = w.heap.push o := rfl

/-- A new real block for a new ideal one. -/
theorem Sim.new {ι : Inj} {H : Heap} {w : World} (hs : Sim ι H w) {cs : List Value} {sz : Nat} {rw_ : Bool} {C : Array Value} {e : TypeId} {fz : Nat × Nat} (hf : rw_ = true → fz = (0, 0))
    (hc : ∀ (i : Nat) (c : Value), cs[i]? = some c → ∃ x, C[i]? = some x ∧ CRel ι c x) (hl : cs.length ≤ C.size) (hvd : rw_ = true → cs = [] → C.size = 0) :
    Sim (updI ι H.length ⟨w.heap.size, 0, C.size, sz⟩) (H ++ [some ⟨cs, sz, rw_⟩]) (w.alloc (.cells C e fz)) := by
  have hsub := hs.subI ⟨w.heap.size, 0, C.size, sz⟩
  have hold : ∀ k, k < w.heap.size → (w.alloc (.cells C e fz)).heap[k]? = w.heap[k]? := fun k hk => RowKit.Below.heap_alloc w _ k hk
  have hsize : (w.alloc (.cells C e fz)).heap.size = w.heap.size + 1 := by rw [alloc_heap]; simp
  refine ⟨fun b L h => ?_, fun b L B hL hB => ?_, fun b1 b2 L1 L2 B1 B2 hb1 hb2 hB1 hB2 he => ?_⟩
  · unfold updI at h
    rw [hsize]
    split at h
    · simp only [Option.some.injEq] at h; subst h; simp [*]
    · have := hs.dom b L h; simp; omega
  · unfold updI at hL
    split at hL
    · rename_i hb
      simp only [Option.some.injEq] at hL; subst hL; subst hb
      rw [Heap.get_new] at hB; simp only [Option.some.injEq] at hB; subst hB
      refine ⟨⟨C, e, fz, ?_, rfl, hf, fun i c hci => ?_⟩, by simpa using hl, rfl, fun h1 h2 => by simpa using hvd h1 h2⟩
      · rw [alloc_heap]; simp
      · obtain ⟨x, hx, hr⟩ := hc i c hci
        exact ⟨x, by simpa using hx, hr.mono hsub⟩
    · rename_i hb
      rcases Heap.get_app hB with ⟨_, h1⟩ | ⟨h1, _⟩
      · exact ((hs.blk b L B hL h1).mono hsub).of_heap (hold _ (hs.dom b L hL).2)
      · exact absurd h1 hb
  · unfold updI at hb1 hb2
    split at hb1
    · rename_i h1
      simp only [Option.some.injEq] at hb1; subst hb1
      split at hb2
      · omega
      · have := (hs.dom b2 L2 hb2).2; simp at he; omega
    · rename_i h1
      split at hb2
      · simp only [Option.some.injEq] at hb2; subst hb2
        have := (hs.dom b1 L1 hb1).2; simp at he; omega
      · rename_i h2
        rcases Heap.get_app hB1 with ⟨_, h3⟩ | ⟨h3, _⟩
        · rcases Heap.get_app hB2 with ⟨_, h4⟩ | ⟨h4, _⟩
          · exact hs.inj b1 b2 L1 L2 B1 B2 hb1 hb2 h3 h4 he
          · exact absurd h4 h2
        · exact absurd h3 h1

theorem Ext.alloc {E : Nat → Prop} {ι : Inj} {H : Heap} {w : World} (hs : Sim ι H w) (o : Obj) (L : Loc) (hL : w.heap.size ≤ L.r) (x : Option Blk) : Ext E ι (updI ι H.length L) H (H ++ [x]) w (w.alloc o) where
  len := by simp
  dead b hb hd := by obtain ⟨B, h1, h2⟩ := hd; rw [Heap.get_old H x hb] at h1; exact ⟨B, h1, h2⟩
  old b hb := by unfold updI; rw [if_neg (by omega)]
  new b L' hb h := by
    unfold updI at h
    split at h
    · simp only [Option.some.injEq] at h; subst h; exact .inl hL
    · exact absurd (hs.dom b L' h).1 (by omega)
  os := rfl
  tape := rfl
  output := rfl
  size := by rw [alloc_heap]; simp
  keep r hr _ _ := RowKit.Below.heap_alloc w _ r hr

theorem LRel.cells_get {ι : Inj} {cs : List Value} {C : Array Value} (h : LRel (CRel ι) cs C.toList) : ∀ (i : Nat) (c : Value), cs[i]? = some c → ∃ x, C[i]? = some x ∧ CRel ι c x := fun i c hc => by
  obtain ⟨y, h1, h2⟩ := h.get i c hc
  exact ⟨y, by simpa using h1, h2⟩

theorem Ext.kill {E : Nat → Prop} {ι : Inj} {H : Heap} {w : World} (hs : Sim ι H w) (b : Nat) : Ext E ι ι H (H.set b none) w w :=
  ⟨by simp, fun b' hb' hd => by
    obtain ⟨B, h1, h2⟩ := hd
    by_cases hbb : b = b'
    · subst hbb; rw [Heap.get_set_same hb'] at h1; simp at h1
    · rw [Heap.get_set_ne hbb] at h1; exact ⟨B, h1, h2⟩, fun _ _ => rfl, fun b L h1 h2 => absurd (hs.dom b L h2).1 (by omega), rfl, rfl, rfl, Nat.le_refl _, fun _ _ _ _ => rfl⟩

/-- A block that is no more told. -/
theorem Sim.kill {ι : Inj} {H : Heap} {w : World} (hs : Sim ι H w) (b : Nat) : Sim ι (H.set b none) w := by
  have g : ∀ b' B', Heap.get (H.set b none) b' = some B' → H.get b' = some B' := fun b' B' h => by
    by_cases hbb : b = b'
    · subst hbb
      have := Heap.get_lt h
      simp at this
      rw [Heap.get_set_same this] at h; simp at h
    · rwa [Heap.get_set_ne hbb] at h
  exact ⟨fun b' L h => by simpa using hs.dom b' L h, fun b' L B h1 h2 => hs.blk b' L B h1 (g _ _ h2), fun b1 b2 L1 L2 B1 B2 h1 h2 h3 h4 => hs.inj b1 b2 L1 L2 B1 B2 h1 h2 (g _ _ h3) (g _ _ h4)⟩

end Go.Proofs.Ytpnbojehfngigaa.IM

/- The ideal machine: append. -/
namespace Go.Proofs.Ytpnbojehfngigaa.IM
open Go
set_option linter.unusedVariables false
set_option linter.unusedSimpArgs false

theorem setCells_eq_setRow (P : Program) {w : World} {b o : Nat} {vs : List Value} {cur : Array Value} {e : TypeId} (h : w.heap[b]? = some (.cells cur e (0, 0))) (hl : o + vs.length ≤ cur.size) (h1 : ∀ v ∈ vs, v.oneCell' = true) :
    w.setCells b o vs = w.setRow b (cur.toList.take o ++ vs ++ cur.toList.drop (o + vs.length)).toArray := by
  have ha := run_storeCells_at P b o e vs 0 cur w h (by omega) h1
  have hb := run_storeCells_cells (P := P) b o vs 0 w (fun j hj => by rw [cell_of h]; simp; omega) (fun j hj => by simp [World.frozen?, h]) h1
  rw [ha] at hb
  simp only [Nat.add_zero, Result.ok.injEq, true_and] at hb
  exact hb.symm

theorem grownCap_ge (w : World) (need old : Nat) (e : TypeId) : need ≤ grownCap w need old e := by
  unfold grownCap Question.cut; simp

theorem zeroCells_size (z : Array Value) (n : Nat) : (Builtin.zeroCells z n).size = n * z.size := by simp [Builtin.zeroCells]

/-- At the tip, in the room that lies behind it. -/
theorem Sim.inplace {ι : Inj} {H : Heap} {w : World} (hs : Sim ι H w) {b : Nat} {L : Loc} {B : Blk} (hL : ι b = some L) (hB : H.get b = some B) (hrw : B.rw = true) {o : Nat} {vs ys : List Value}
    (ho : o ≤ B.cells.length) (hroom : L.base + B.cells.length + ys.length ≤ L.lim) (hv : LRel (CRel ι) vs ys) (hvs : vs ≠ []) {cur : Array Value} {e : TypeId} (hc : w.heap[L.r]? = some (.cells cur e (0, 0))) :
    Sim (updI ι H.length ⟨L.r, L.base + o, L.lim, L.sz⟩) (H.set b none ++ [some ⟨B.cells.drop o ++ vs, L.sz, true⟩])
      (w.setRow L.r (cur.toList.take (L.base + B.cells.length) ++ ys ++ cur.toList.drop (L.base + B.cells.length + ys.length)).toArray) ∧
    Ext noE ι (updI ι H.length ⟨L.r, L.base + o, L.lim, L.sz⟩) H (H.set b none ++ [some ⟨B.cells.drop o ++ vs, L.sz, true⟩]) w (w.setRow L.r (cur.toList.take (L.base + B.cells.length) ++ ys ++ cur.toList.drop (L.base + B.cells.length + ys.length)).toArray) := by
  have hb := Heap.get_lt hB
  have hsub := hs.subI ⟨L.r, L.base + o, L.lim, L.sz⟩
  obtain ⟨⟨C, e', fz, h1, h2, h3, h4⟩, h5, h6, hvd⟩ := hs.blk b L B hL hB
  rw [hc] at h1; simp only [Option.some.injEq, Obj.cells.injEq] at h1
  obtain ⟨rfl, rfl, rfl⟩ := h1
  have hlv := hv.len
  have key : ∀ i, ((cur.toList.take (L.base + B.cells.length) ++ ys ++ cur.toList.drop (L.base + B.cells.length + ys.length)).toArray)[L.base + o + i]? =
      if o + i < B.cells.length then cur[L.base + (o + i)]? else if o + i < B.cells.length + ys.length then ys[o + i - B.cells.length]? else cur[L.base + (o + i)]? := by
    intro i
    have := put_get cur.toList (L.base + B.cells.length) ys (by simp; omega) (L.base + o + i)
    unfold put at this
    rw [List.getElem?_toArray, this]
    by_cases c1 : o + i < B.cells.length
    · rw [if_pos (by omega), if_pos c1]; simp [Nat.add_assoc]
    · rw [if_neg (by omega), if_neg c1]
      by_cases c2 : o + i < B.cells.length + ys.length
      · rw [if_pos (by omega), if_pos c2]; congr 1; omega
      · rw [if_neg (by omega), if_neg c2]; simp [Nat.add_assoc]
  have hlen : (H.set b none).length = H.length := by simp
  have hk := hs.kill b
  refine ⟨⟨fun b' L' h => ?_, fun b' L' B' hL' hB' => ?_, fun b1 b2 L1 L2 B1 B2 hb1 hb2 hB1 hB2 he => ?_⟩, ?_⟩
  · unfold updI at h
    rw [setRow_size]
    split at h
    · simp only [Option.some.injEq] at h; subst h
      have := (hs.dom b L hL).2
      simp [*]
    · have := hs.dom b' L' h; simp; omega
  · unfold updI at hL'
    split at hL'
    · rename_i hbb
      simp only [Option.some.injEq] at hL'; subst hL'; subst hbb
      have : Heap.get (H.set b none ++ [some ⟨B.cells.drop o ++ vs, L.sz, true⟩]) H.length = some ⟨B.cells.drop o ++ vs, L.sz, true⟩ := by
        have := Heap.get_new (H.set b none) ⟨B.cells.drop o ++ vs, L.sz, true⟩
        rwa [hlen] at this
      rw [this] at hB'; simp only [Option.some.injEq] at hB'; subst hB'
      refine ⟨⟨_, e, (0, 0), setRow_heap w L.r cur _ e (0, 0) hc, by simp; omega, fun _ => rfl, fun i c hci => ?_⟩, by simp; omega, rfl, fun _ h => absurd h (by simp [hvs])⟩
      rw [key i]
      by_cases c1 : o + i < B.cells.length
      · rw [if_pos c1]
        simp only [] at hci
        rw [List.getElem?_append_left (by simp; omega), List.getElem?_drop] at hci
        obtain ⟨x, hx, hr⟩ := h4 _ _ hci
        exact ⟨x, hx, hr.mono hsub⟩
      · rw [if_neg c1]
        simp only [] at hci
        rw [List.getElem?_append_right (by simp; omega)] at hci
        obtain ⟨x, hx, hr⟩ := hv.get _ _ hci
        have hlt := (List.getElem?_eq_some_iff.1 hx).1
        simp at hlt
        have hi : i - (B.cells.drop o).length = o + i - B.cells.length := by simp; omega
        rw [hi] at hx
        rw [if_pos (by have := (List.getElem?_eq_some_iff.1 hx).1; omega)]
        exact ⟨x, hx, hr.mono hsub⟩
    · rename_i hbb
      rcases Heap.get_app hB' with ⟨_, h7⟩ | ⟨h7, _⟩
      · have hne2 : b ≠ b' := by
          rintro rfl
          rw [Heap.get_set_same hb] at h7; simp at h7
        have h8 : H.get b' = some B' := by rwa [Heap.get_set_ne hne2] at h7
        have hne : L'.r ≠ L.r := fun he => hne2 (hs.inj b b' L L' B B' hL hL' hB h8 he.symm)
        exact ((hs.blk b' L' B' hL' h8).mono hsub).of_heap (setRow_other w L.r L'.r _ hne)
      · rw [hlen] at h7; exact absurd h7 hbb
  · have alive : ∀ b' B', Heap.get (H.set b none ++ [some ⟨B.cells.drop o ++ vs, L.sz, true⟩]) b' = some B' → b' ≠ H.length → H.get b' = some B' ∧ b' ≠ b := by
      intro b' B' h hn
      rcases Heap.get_app h with ⟨_, h7⟩ | ⟨h7, _⟩
      · have hne2 : b ≠ b' := by
          rintro rfl
          rw [Heap.get_set_same hb] at h7; simp at h7
        exact ⟨by rwa [Heap.get_set_ne hne2] at h7, Ne.symm hne2⟩
      · rw [hlen] at h7; exact absurd h7 hn
    unfold updI at hb1 hb2
    split at hb1
    · rename_i c1
      simp only [Option.some.injEq] at hb1; subst hb1
      split at hb2
      · omega
      · rename_i c2
        obtain ⟨g1, g2⟩ := alive b2 B2 hB2 c2
        exact absurd (hs.inj b b2 L L2 B B2 hL hb2 hB g1 he) (Ne.symm g2)
    · rename_i c1
      obtain ⟨g1, g2⟩ := alive b1 B1 hB1 c1
      split at hb2
      · simp only [Option.some.injEq] at hb2; subst hb2
        exact absurd (hs.inj b1 b L1 L B1 B hb1 hL g1 hB he) g2
      · rename_i c2
        obtain ⟨g3, g4⟩ := alive b2 B2 hB2 c2
        exact hs.inj b1 b2 L1 L2 B1 B2 hb1 hb2 g1 g3 he
  · refine ⟨by simp, fun b' hb' hd => ?_, fun b' hb' => by unfold updI; rw [if_neg (by omega)], fun b' L' hb' h => ?_, rfl, rfl, rfl, by rw [setRow_size]; exact Nat.le_refl _, fun r hr hn _ => setRow_other w L.r r _ (fun he => hn b L hb hL ⟨B, hB, hrw⟩ he.symm)⟩
    · obtain ⟨B', q1, q2⟩ := hd
      by_cases hbb : b = b'
      · subst hbb; exact ⟨B, hB, hrw⟩
      · rw [Heap.get_old _ _ (by simpa using hb'), Heap.get_set_ne hbb] at q1; exact ⟨B', q1, q2⟩
    · unfold updI at h
      split at h
      · simp only [Option.some.injEq] at h; subst h; exact .inr ⟨b, L, hb, hL, ⟨B, hB, hrw⟩, rfl⟩
      · exact absurd (hs.dom b' L' h).1 (by omega)

theorem Sim.drew {ι : Inj} {H : Heap} {w : World} (hs : Sim ι H w) : Sim ι H w.drew := hs.of_heap rfl
theorem Ext.drew {E : Nat → Prop} {ι : Inj} {H : Heap} {w : World} (hs : Sim ι H w) : Ext E ι ι H H w w.drew := Ext.of_heap hs rfl rfl rfl rfl

theorem Src.world {P : Program} {sz : Nat} {tx : TypeId} {x : Value} {k : Nat} {ys : List Value} {w : World} (h : Src P sz tx x k ys w) : ys.length = k * sz := h.newsLen

/-- A new row behind an append that grows. -/
theorem Sim.grow {ι : Inj} {H : Heap} {w : World} (hs : Sim ι H w) {P : Program} {t tx ty e : TypeId} {i : TypeInfo} {z : Value} (ht : P.underlying t = some (.slice e)) (hi : P.info? e = some i) (hz : i.zero = some z)
    (hzs : z.cells.size = i.size) {base : Option Addr} {n c' : Nat} {olds iolds : List Value}
    (hold : (Builtin.firstCells i.size n (.slice base n c')).run P w.drew = .ok olds.toArray w.drew) (ho : LRel (CRel ι) iolds olds) (hol : iolds.length = n * i.size) {x : Value} {k : Nat} {vs ys : List Value}
    (hx : Src P i.size tx x k ys w) (hv : LRel (CRel ι) vs ys) (hg : c' < n + k) (hb : n + k ≤ 2 ^ 38) (hby : i.bytes ≤ 256) (hne : iolds ++ vs ≠ []) :
    ∃ y' w', (Builtin.append_ #[t, tx] ty #[.slice base n c', x]).run P w = .ok y' w' ∧
      ∃ ι', CRel ι' (.slice (some ⟨H.length, 0, none⟩) (n + k) (n + k)) y' ∧ Sim ι' (H ++ [some ⟨iolds ++ vs, i.size, true⟩]) w' ∧ Ext noE ι ι' H (H ++ [some ⟨iolds ++ vs, i.size, true⟩]) w w' := by
  have hnext := nextslicecap_le hg
  have hfit : Builtin.nextslicecap (n + k) c' * i.bytes ≤ 281474976710656 := by
    have h1 : Builtin.nextslicecap (n + k) c' ≤ 2 ^ 39 := by omega
    calc Builtin.nextslicecap (n + k) c' * i.bytes ≤ 2 ^ 39 * 256 := Nat.mul_le_mul h1 hby
      _ ≤ 281474976710656 := by decide
  have hrun := run_append_grow_src w t tx ty e i z ht hi hz base n c' olds hold x k ys hx hg (by omega) hfit
  have hcap := grownCap_ge w (n + k) c' e
  generalize hG : grownCap w (n + k) c' e = G at hrun hcap
  have hl1 := ho.len
  have hl2 := hv.len
  have hl3 := hx.newsLen
  have hCsize : ((olds ++ ys).toArray ++ Builtin.zeroCells z.cells (G - (n + k))).size = G * i.size := by
    simp only [Array.size_append, List.size_toArray, List.length_append, zeroCells_size, hzs]
    rw [← hl1, hol, hl3, ← Nat.add_mul, ← Nat.add_mul]; congr 1; omega
  have hsz : w.drew.heap.size = w.heap.size := rfl
  have hsim := hs.drew.new (cs := iolds ++ vs) (sz := i.size) (rw_ := true) (C := (olds ++ ys).toArray ++ Builtin.zeroCells z.cells (G - (n + k))) (e := e) (fz := (0, 0)) (fun _ => rfl)
    (fun j c hj => by
      obtain ⟨q, h1, h2⟩ := (ho.append hv).get j c hj
      refine ⟨q, ?_, h2⟩
      rw [Array.getElem?_append_left (by simpa using (List.getElem?_eq_some_iff.1 h1).1)]
      simpa using h1) (by rw [hCsize]; simp [hol, hl2, hl3, ← Nat.add_mul]; exact Nat.mul_le_mul_right _ hcap) (fun _ h => absurd h hne)
  refine ⟨_, _, hrun, _, ?_, hsim, (Ext.drew hs).trans (Ext.alloc hs.drew _ _ (Nat.le_refl _) _)⟩
  refine CRel.sl (L := ⟨w.heap.size, 0, _, i.size⟩) (by unfold updI; rw [if_pos rfl]; rfl) (Nat.le_refl _) hcap (.inr rfl) ?_
  simp only [hCsize, Nat.zero_add]; exact Nat.le_refl _

theorem app_len {sz n : Nat} {B : Blk} {o : Nat} (h : o + n * sz = B.cells.length) : (B.cells.drop o).take (n * sz) = B.cells.drop o := by
  apply List.take_of_length_le; simp; omega

theorem Sim.app {ι : Inj} {H H' : Heap} {w : World} (hs : Sim ι H w) {P : Program} {t tx ty e : TypeId} {i : TypeInfo} {z : Value} (ht : P.underlying t = some (.slice e)) (hi : P.info? e = some i) (hz : i.zero = some z)
    (hzs : z.cells.size = i.size) {s s' y x : Value} {k : Nat} {vs ys : List Value} (hp : CRel ι s y) (hx : Src P i.size tx x k ys w) (hv : LRel (CRel ι) vs ys)
    (h : H.app s i.size i.bytes k vs = some (s', H')) :
    ∃ y' w', (Builtin.append_ #[t, tx] ty #[y, x]).run P w = .ok y' w' ∧
      ∃ ι', CRel ι' s' y' ∧ Sim ι' H' w' ∧ Ext noE ι ι' H H' w w' ∧ H.length ≤ H'.length := by
  have hl2 := hv.len
  have hl3 := hx.newsLen
  unfold Heap.app at h
  by_cases hk : k = 0
  · subst hk
    rw [if_pos rfl] at h
    have hys : ys = [] := by simpa using hl3
    subst hys
    cases hp with
    | snil =>
      simp only [Option.some.injEq, Prod.mk.injEq] at h; obtain ⟨rfl, rfl⟩ := h
      exact ⟨_, w, run_append_nothing w t tx ty e i ht hi none 0 0 (Nat.le_refl _) x hx, ι, .snil, hs, Ext.refl _ _ _ _ _ hs, Nat.le_refl _⟩
    | @sl b o n c c' ro L hL hn hc hro hlim =>
      simp only [Option.some.injEq, Prod.mk.injEq] at h; obtain ⟨rfl, rfl⟩ := h
      exact ⟨_, w, run_append_nothing w t tx ty e i ht hi _ n c' (by omega) x hx, ι, .sl hL hn hc hro hlim, hs, Ext.refl _ _ _ _ _ hs, Nat.le_refl _⟩
    | ptr h' => cases h' <;> simp at h
    | _ => simp at h
  · rw [if_neg hk] at h
    split at h
    · simp at h
    · rename_i hbd
      have hbd1 : lenS s + k ≤ 2 ^ 38 := by omega
      have hbd2 : i.bytes ≤ 256 := by omega
      have hvn : vs ≠ [] := by
        intro e0
        rw [← hl2, e0] at hl3
        have : 0 < k * i.size := Nat.mul_pos (by omega) (by omega)
        simp at hl3; omega
      cases hp with
      | snil =>
        simp only [Option.some.injEq, Prod.mk.injEq] at h; obtain ⟨rfl, rfl⟩ := h
        obtain ⟨y', w', h1, ι', h2, h3, h4⟩ := hs.grow (iolds := []) (olds := []) ht hi hz hzs (base := none) (n := 0) (c' := 0) (by simp [Builtin.firstCells]) .nil (by simp) hx hv (ty := ty) (by omega) (by simpa [lenS] using hbd1) hbd2 (by simpa using hvn)
        refine ⟨y', w', h1, ι', ?_, ?_, ?_, by simp⟩
        · simpa using h2
        · simpa using h3
        · simpa using h4
      | @sl b o n c c' ro L hL hn hc hro hlim =>
        simp only [lenS] at hbd1
        simp only [] at h
        split at h
        · rename_i B hB
          have hb := Heap.get_lt hB
          split at h
          · rename_i hBs
            obtain ⟨hBsz, hrw⟩ := hBs
            obtain ⟨⟨C, e', fz, h1, h2, h3, h4⟩, h5, h6, hvd⟩ := hs.blk b L B hL hB
            have := h3 hrw; subst this
            have hLsz : L.sz = i.size := by rw [← h6, hBsz]
            split at h
            · rename_i hroom
              split at h
              · rename_i hfit
                simp only [Option.some.injEq, Prod.mk.injEq] at h; obtain ⟨rfl, rfl⟩ := h
                have hro : ro = L.base + o := hro.resolve_left (by omega)
                subst hro
                have e1 : (n + k) * i.size = n * i.size + k * i.size := Nat.add_mul _ _ _
                have hst := run_append_room_src w t tx ty e i ht hi L.r (L.base + o) n c' x k ys hx (by omega) (fun j hj => by rw [cell_of h1]; simp; omega) (fun j hj => by simp [World.frozen?, h1])
                rw [setCells_eq_setRow P h1 (by omega) hx.one] at hst
                have hsim := hs.wr_at hL hB hrw (o := o + n * i.size) (vs := vs) (ys := ys) (by omega) hv h1
                refine ⟨_, _, hst, ι, ?_, ?_, Ext.setRow _ hs hL hB ‹_›, by simp⟩
                · exact .sl hL hroom hc (.inr rfl) hlim
                · have e2 : L.base + (o + n * i.size) = L.base + o + n * i.size := by omega
                  rw [e2] at hsim; exact hsim
              · simp at h
            · rename_i hroom
              split at h
              · rename_i htip
                simp only [Option.some.injEq, Prod.mk.injEq] at h; obtain ⟨rfl, rfl⟩ := h
                by_cases hrr : n + k ≤ c'
                · have hro : ro = L.base + o := hro.resolve_left (by omega)
                  subst hro
                  rw [hLsz] at hlim
                  have e1 : (n + k) * i.size = n * i.size + k * i.size := Nat.add_mul _ _ _
                  have e3 : (n + k) * i.size ≤ c' * i.size := Nat.mul_le_mul_right _ hrr
                  have hkp : 0 < k * i.size := Nat.mul_pos (by omega) (by omega)
                  have hemp : ¬ (B.cells.isEmpty = true) := by
                    intro h7
                    have := hvd hrw (by simpa using h7)
                    omega
                  rw [if_neg hemp]
                  have hst := run_append_room_src w t tx ty e i ht hi L.r (L.base + o) n c' x k ys hx hrr (fun j hj => by rw [cell_of h1]; simp; omega) (fun j hj => by simp [World.frozen?, h1])
                  rw [setCells_eq_setRow P h1 (by omega) hx.one] at hst
                  obtain ⟨hsim, hext⟩ := hs.inplace hL hB hrw (o := o) (vs := vs) (ys := ys) (by omega) (by omega) hv hvn h1
                  have e2 : L.base + B.cells.length = L.base + o + n * i.size := by omega
                  rw [e2, hLsz] at hsim hext
                  refine ⟨_, _, hst, _, ?_, hsim, hext, by simp⟩
                  refine CRel.sl (L := ⟨L.r, L.base + o, L.lim, i.size⟩) (by unfold updI; rw [if_pos rfl]) (Nat.le_refl _) hrr (.inr rfl) hlim
                · have hco : H.cellsOf (.slice (some ⟨b, o, none⟩) n c) i.size = some (B.cells.drop o) := by
                    simp only [Heap.cellsOf, hB]; rw [if_pos ⟨hBsz, by omega⟩, app_len htip]
                  rcases hs.cellsOf (CRel.sl hL hn hc hro hlim) hco with ⟨h7, _⟩ | ⟨a, n', c'', olds, h7, h8, h9, h10, h11⟩
                  · simp at h7
                  · simp only [Value.slice.injEq, Option.some.injEq] at h7
                    obtain ⟨rfl, rfl, rfl⟩ := h7
                    have hol : olds.length = n * i.size := by rw [← h10.len]; exact h9
                    have hgo : ∀ H1 : Heap, H1.length = H.length → Sim ι H1 w → Ext noE ι ι H H1 w w → ∃ y' w', (Builtin.append_ #[t, tx] ty #[.slice (some ⟨L.r, ro, none⟩) n c', x]).run P w = .ok y' w' ∧
                        ∃ ι', CRel ι' (.slice (some ⟨H.length, 0, none⟩) (n + k) (n + k)) y' ∧ Sim ι' (H1 ++ [some ⟨B.cells.drop o ++ vs, i.size, true⟩]) w' ∧ Ext noE ι ι' H (H1 ++ [some ⟨B.cells.drop o ++ vs, i.size, true⟩]) w w' := by
                      intro H1 hl1 hs1 he1
                      obtain ⟨y', w', g1, ι', g2, g3, g4⟩ := hs1.grow (iolds := B.cells.drop o) (olds := olds) ht hi hz hzs (base := some ⟨L.r, ro, none⟩) (n := n) (c' := c')
                        (run_firstCells_some w.drew i.size n _ n c' olds hol (by simpa using h11)) h10 h9 hx hv (ty := ty) (by omega) hbd1 hbd2 (by simp [hvn])
                      rw [hl1] at g2
                      exact ⟨y', w', g1, ι', g2, g3, he1.trans g4⟩
                    by_cases hemp : B.cells.isEmpty = true
                    · rw [if_pos hemp]
                      obtain ⟨y', w', g1, ι', g2, g3, g4⟩ := hgo H rfl hs (Ext.refl _ _ _ _ _ hs)
                      exact ⟨y', w', g1, ι', g2, g3, g4, by simp⟩
                    · rw [if_neg hemp]
                      obtain ⟨y', w', g1, ι', g2, g3, g4⟩ := hgo (H.set b none) (by simp) (hs.kill b) (Ext.kill hs b)
                      exact ⟨y', w', g1, ι', g2, g3, g4, by simp⟩
              · simp at h
          · simp at h
        · simp at h
      | ptr h' => cases h' <;> simp at h
      | _ => simp at h

end Go.Proofs.Ytpnbojehfngigaa.IM

/- The ideal machine: single operations of the real machine (values, comparisons, made values). -/
namespace Go.Proofs.Ytpnbojehfngigaa.IM
open Go
set_option linter.unusedVariables false
set_option linter.unusedSimpArgs false

/-! ### inversions -/

theorem CRel.rint {ι : Inj} {k : IntKind} {n : Int} {y : Value} (h : CRel ι (.int k n) y) : y = .int k n := by
  cases h with
  | int => rfl
  | ptr h => cases h

theorem CRel.rbool {ι : Inj} {b : Bool} {y : Value} (h : CRel ι (.bool b) y) : y = .bool b := by
  cases h with
  | bool => rfl
  | ptr h => cases h

theorem V1Rel.int {ι : Inj} {k : IntKind} {n : Int} {y : Value} (h : V1Rel ι (.int k n) y) : y = .int k n := by
  cases h with
  | cell h => exact h.rint

theorem V1Rel.bool {ι : Inj} {b : Bool} {y : Value} (h : V1Rel ι (.bool b) y) : y = .bool b := by
  cases h with
  | cell h => exact h.rbool

theorem V1Rel.str {ι : Inj} {s : ByteArray} {y : Value} (h : V1Rel ι (.string s) y) : y = .string s := by
  cases h with
  | cell h => cases h with
    | str => rfl
    | ptr h => cases h

theorem V1Rel.ptr {ι : Inj} {a : Option Addr} {y : Value} (h : V1Rel ι (.pointer a) y) : PRel ι (.pointer a) y := by
  cases h with
  | cell h => cases h with
    | ptr h => exact h

theorem V1Rel.slc {ι : Inj} {a : Option Addr} {n c : Nat} {y : Value} (h : V1Rel ι (.slice a n c) y) : CRel ι (.slice a n c) y := by
  cases h with
  | cell h => exact h

theorem V1Rel.aggr {ι : Inj} {xs : Array Value} {y : Value} (h : V1Rel ι (.agg xs) y) : ∃ ys : List Value, y = .agg ys.toArray ∧ LRel (CRel ι) xs.toList ys := by
  cases h with
  | cell h => cases h with
    | ptr h => cases h
  | agg h => exact ⟨_, rfl, h⟩

theorem V1Rel.fn {ι : Inj} {f : Nat} {xs : Array Value} {y : Value} (h : V1Rel ι (.func (.func f) #[] xs) y) : ∃ ys : List Value, y = .func (.func f) #[] ys.toArray ∧ LRel (PRel ι) xs.toList ys := by
  cases h with
  | cell h => cases h with
    | fn h => exact ⟨_, rfl, h⟩
    | ptr h => cases h

theorem V1Rel.ofInt {ι : Inj} (k : IntKind) (n : Int) : V1Rel ι (.int k n) (.int k n) := .cell (.int k n)
theorem V1Rel.ofBool {ι : Inj} (b : Bool) : V1Rel ι (.bool b) (.bool b) := .cell (.bool b)
theorem VRel.undef {ι : Inj} : VRel ι (.tup []) (.tuple #[]) := .tup (xs := []) (ys := []) .nil
theorem VRel.v1 {ι : Inj} {x y : Value} (h : VRel ι (.val x) y) : V1Rel ι x y := by cases h; assumption
theorem VRel.tuple {ι : Inj} {xs : List Value} {y : Value} (h : VRel ι (.tup xs) y) : ∃ ys : List Value, y = .tuple ys.toArray ∧ LRel (V1Rel ι) xs ys := by
  cases h with
  | tup h => exact ⟨_, rfl, h⟩

theorem mkv_rel {ι : Inj} {g : Bool} {cs ys : List Value} (h : LRel (CRel ι) cs ys) (hn : g = true ∨ cs.length = 1) : V1Rel ι (mkv g cs) (mkv g ys) := by
  unfold mkv
  cases g with
  | true => exact .agg h
  | false =>
    rcases hn with hn | hn
    · simp at hn
    · cases h with
      | nil => simp at hn
      | cons h t => exact .cell h

/-! ### comparisons -/

section
variable (P : Program)

theorem run_eqGuard_plain (w : World) (op : BinOp) (t : TypeId) (x y : Operand) (a b : Value) (h : ∀ xs, a ≠ .agg xs) (hn : a ≠ .nilIface) : (eqGuard op t x y a b).run P w = .ok () w := by
  cases op <;> cases a <;> first | rfl | exact absurd rfl hn | exact absurd rfl (h _)

theorem run_eqGuard_agg (w : World) (op : BinOp) (t : TypeId) (x y : Operand) (a b : Array Value) (h : P.eqGuardType P.depth t = false) : (eqGuard op t x y (.agg a) (.agg b)).run P w = .ok () w := by
  cases op <;> first | rfl | (simp [eqGuard, h])

theorem run_part (w : World) {t : TypeId} {d : TypeDesc} (hd : P.underlying t = some d) (h1 : (match d with | .struct _ | .array _ _ => true | _ => false) = false) (cs : List Value) (off : Nat) (v : Value) (hv : cs[off]? = some v) :
    (part t cs.toArray off).run P w = .ok v w := by
  unfold part isAgg
  simp only [Sem.run_bind, run_underlying hd, Result.andThen_ok]
  cases d <;> simp_all

theorem fieldsEq_cons {f : Field} {fs : List Field} {os : List (Nat × Bool)} (h : fieldsEq P (f :: fs) = some os) :
    ∃ os', fieldsEq P fs = some os' ∧ (f.name == "_") = false ∧ ((os = (f.offset, false) :: os' ∧ ∃ k, P.underlying f.type = some (.int k)) ∨ (os = (f.offset, true) :: os' ∧ P.underlying f.type = some .bool)) := by
  unfold fieldsEq at h
  split at h
  · rename_i os' h'
    refine ⟨os', h', ?_⟩
    split at h
    · simp at h
    · rename_i hn
      split at h
      · rename_i k hk; simp at h; exact ⟨by simpa using hn, .inl ⟨h.symm, k, hk⟩⟩
      · rename_i hk; simp at h; exact ⟨by simpa using hn, .inr ⟨h.symm, hk⟩⟩
      · simp at h
  · simp at h

theorem equalIn_int (w : World) (d : Nat) (t : TypeId) {k' k : IntKind} (a b : Int) (hu : P.underlying t = some (.int k')) : (Op.equalIn (d + 1) t (.int k a) (.int k b)).run P w = .ok (a == b) w := by
  unfold Op.equalIn
  simp only [Sem.run_bind, run_underlying hu, Result.andThen_ok, if_true, Sem.run_pure]

theorem equalIn_bool (w : World) (d : Nat) (t : TypeId) (a b : Bool) (hu : P.underlying t = some .bool) : (Op.equalIn (d + 1) t (.bool a) (.bool b)).run P w = .ok (a == b) w := by
  unfold Op.equalIn
  simp only [Sem.run_bind, run_underlying hu, Result.andThen_ok, Sem.run_pure]

theorem equalIn_fields (w : World) (d : Nat) {ι : Inj} {xs ys xs' ys' : List Value} (hx : LRel (CRel ι) xs xs') (hy : LRel (CRel ι) ys ys') :
    ∀ (fs : List Field) (os : List (Nat × Bool)) (b : Bool), fieldsEq P fs = some os → eqCells os xs ys = some b →
    ∀ (g : Field → Option Bool × Unit → Sem (ForInStep (Option Bool × Unit))),
      (∀ f r, g f r = (if f.name ≠ "_" then do
          if !(← Op.equalIn (d + 1) f.type (← part f.type xs'.toArray f.offset) (← part f.type ys'.toArray f.offset)) then pure (ForInStep.done (some false, ())) else pure (ForInStep.yield (none, ()))
        else pure (ForInStep.yield (none, ())))) →
      (forIn fs ((none, ()) : Option Bool × Unit) g).run P w = .ok (if b then (none, ()) else (some false, ())) w
  | [], os, b, hf, he, g, hg => by
    simp only [fieldsEq, Option.some.injEq] at hf; subst hf
    simp only [eqCells, Option.some.injEq] at he; subst he
    simp
  | f :: fs, os, b, hf, he, g, hg => by
    obtain ⟨os', h1, h2, h3⟩ := fieldsEq_cons P hf
    have hn : f.name ≠ "_" := by simpa using h2
    have ih := equalIn_fields w d hx hy fs os'
    rcases h3 with ⟨rfl, k, hk⟩ | ⟨rfl, hk⟩
    · simp only [eqCells] at he
      split at he
      · rename_i k1 a k2 c e1 e2
        obtain ⟨x', e3, e4⟩ := hx.get _ _ e1
        obtain ⟨y', e5, e6⟩ := hy.get _ _ e2
        have e7 := e4.rint; have e8 := e6.rint
        subst e7; subst e8
        split at he
        · rename_i hkk; subst hkk
          have hp1 := run_part P w hk rfl xs' f.offset _ e3
          have hp2 := run_part P w hk rfl ys' f.offset _ e5
          have heq := equalIn_int P w d f.type (k := k1) a c hk
          simp only [List.forIn_cons, Sem.run_bind, hg, ne_eq, hn, not_false_eq_true, if_true, hp1, hp2, heq, Result.andThen_ok]
          by_cases hac : a = c
          · rw [if_pos hac] at he
            have := ih b h1 he g hg
            simp [hac, this]
          · rw [if_neg hac] at he
            simp only [Option.some.injEq] at he; subst he
            simp [hac]
        · simp at he
      · simp at he
    · simp only [eqCells] at he
      split at he
      · rename_i a c e1 e2
        obtain ⟨x', e3, e4⟩ := hx.get _ _ e1
        obtain ⟨y', e5, e6⟩ := hy.get _ _ e2
        have e7 := e4.rbool; have e8 := e6.rbool
        subst e7; subst e8
        have hp1 := run_part P w hk rfl xs' f.offset _ e3
        have hp2 := run_part P w hk rfl ys' f.offset _ e5
        have heq := equalIn_bool P w d f.type a c hk
        simp only [List.forIn_cons, Sem.run_bind, hg, ne_eq, hn, not_false_eq_true, if_true, hp1, hp2, heq, Result.andThen_ok]
        by_cases hac : a = c
        · rw [if_pos hac] at he
          have := ih b h1 he g hg
          simp [hac, this]
        · rw [if_neg hac] at he
          simp only [Option.some.injEq] at he; subst he
          simp [hac]
      · simp at he

theorem equalIn_struct (w : World) (d : Nat) (t : TypeId) {ι : Inj} {xs ys xs' ys' : List Value} (hx : LRel (CRel ι) xs xs') (hy : LRel (CRel ι) ys ys')
    {fs : Array Field} {os : List (Nat × Bool)} {b : Bool} (hu : P.underlying t = some (.struct fs)) (hs : P.stoodInHeld t = false) (hf : fieldsEq P fs.toList = some os) (he : eqCells os xs ys = some b) :
    (Op.equalIn (d + 2) t (.agg xs'.toArray) (.agg ys'.toArray)).run P w = .ok b w := by
  unfold Op.equalIn
  simp only [Sem.run_bind, run_underlying hu, Result.andThen_ok, run_program, hs, Bool.false_eq_true, if_false]
  rw [← Array.forIn_toList]
  rw [equalIn_fields P w d hx hy fs.toList os b hf he _ (fun f r => rfl)]
  cases b <;> rfl

end

end Go.Proofs.Ytpnbojehfngigaa.IM

/- The ideal machine: made values (structs, slices), slicing. -/
namespace Go.Proofs.Ytpnbojehfngigaa.IM
open Go
set_option linter.unusedVariables false
set_option linter.unusedSimpArgs false

theorem plain_rel {ι : Inj} {v : Value} (h : plain v = true) : CRel ι v v := by
  unfold plain at h
  split at h
  · exact .bool _
  · exact .int _ _
  · exact .str _
  · exact .ptr .nul
  · exact .snil
  · simp at h

theorem plains_rel {ι : Inj} : ∀ {l : List Value}, l.all plain = true → LRel (CRel ι) l l
  | [], _ => .nil
  | v :: l, h => by simp at h; exact .cons (plain_rel h.1) (plains_rel (by simpa using h.2))

theorem put_cons (l : List Value) (o : Nat) (v : Value) (vs : List Value) (h : o < l.length) : put l o (v :: vs) = put (l.set o v) (o + 1) vs := by
  unfold put
  have e1 : (l.set o v).take (o + 1) = l.take o ++ [v] := by
    rw [List.take_set, List.take_succ_eq_append_getElem h, List.set_append_right _ _ (by simp; omega)]
    simp [Nat.min_eq_left (Nat.le_of_lt h)]
  have e2 : (l.set o v).drop (o + 1 + vs.length) = l.drop (o + (v :: vs).length) := by
    rw [List.drop_set_of_lt (by omega)]
    congr 1; simp; omega
  rw [e1, e2]; simp

theorem foldl_put (off : Nat) : ∀ (l : List Value) (k : Nat) (cells : Array Value), off + k + l.length ≤ cells.size →
    ((l.zipIdx k).foldl (fun (cs : Array Value) (x : Value × Nat) => cs.setIfInBounds (off + x.2) x.1) cells).toList = put cells.toList (off + k) l
  | [], k, cells, _ => by simp [put]
  | v :: l, k, cells, h => by
    simp only [List.zipIdx_cons, List.foldl_cons]
    rw [foldl_put off l (k + 1) _ (by simp at h ⊢; omega), put_cons _ _ _ _ (by simp at h ⊢; omega)]
    simp [Array.toList_setIfInBounds, Nat.add_assoc]

theorem LRel.put {ι : Inj} {xs ys vs ws : List Value} (h : LRel (CRel ι) xs ys) (o : Nat) (hv : LRel (CRel ι) vs ws) : LRel (CRel ι) (put xs o vs) (put ys o ws) := by
  unfold IM.put
  rw [← hv.len]
  exact ((h.take o).append hv).append (h.drop _)

theorem fill_rel {ι : Inj} (place : Nat → Option (Nat × Nat)) : ∀ (ps : List (Nat × Nat)) (ivs : List Value) (js : List (Nat × Value)) (ic ic' : List Value) (rc : Array Value),
    LRel (fun v (j : Nat × Value) => V1Rel ι v j.2) ivs js → LRel (fun (p : Nat × Nat) (j : Nat × Value) => place j.1 = some p) ps js → LRel (CRel ι) ic rc.toList → fillC ic ps ivs = some ic' →
    ∃ rc', Instr.fill place rc js = some rc' ∧ LRel (CRel ι) ic' rc'.toList
  | ps, [], js, ic, ic', rc, hv, hp, hc, h => by
    cases hv; cases hp
    simp only [fillC, Option.some.injEq] at h; subst h
    exact ⟨rc, rfl, hc⟩
  | ps, v :: ivs, js, ic, ic', rc, hv, hp, hc, h => by
    cases hv with
    | @cons _ j _ js' hv1 hvt =>
    cases hp with
    | @cons p _ ps' _ hp1 hpt =>
    obtain ⟨off, size⟩ := p
    simp only [fillC] at h
    split at h
    · rename_i hle
      have hcl := hv1.cl
      have hl1 : j.2.cells.size = size := by have := hcl.len; simp at this; omega
      have hl2 := hc.len
      simp at hl2
      have hfold : (j.2.cells.zipIdx.foldl (fun (cs : Array Value) (x : Value × Nat) => cs.setIfInBounds (off + x.2) x.1) rc).toList = put rc.toList off j.2.cells.toList := by
        have := foldl_put off j.2.cells.toList 0 rc (by simp; omega)
        simp only [Nat.add_zero] at this
        rw [← this]
        congr 1
        rw [← Array.foldl_toList, Array.toList_zipIdx]
      obtain ⟨rc', h1, h2⟩ := fill_rel place ps' ivs js' (put ic off (cl v)) ic' _ hvt hpt (by rw [hfold]; exact hc.put off hcl) h
      refine ⟨rc', ?_, h2⟩
      obtain ⟨jn, jv⟩ := j
      simp only [Instr.fill, hp1]
      simp only [] at hl1
      rw [if_neg (by simp; omega)]
      exact h1
    · simp at h

theorem reps_length (n : Nat) (z : List Value) : (reps n z).length = n * z.length := by
  induction n with
  | zero => simp [reps]
  | succ n ih => simp [reps, ih, Nat.succ_mul]; omega

theorem reps_get (z : List Value) : ∀ (n i : Nat), i < n * z.length → (reps n z)[i]? = z[i % z.length]?
  | 0, i, h => by simp at h
  | n + 1, i, h => by
    rw [Nat.succ_mul] at h
    unfold reps
    by_cases hi : i < z.length
    · rw [List.getElem?_append_left hi, Nat.mod_eq_of_lt hi]
    · have e : i % z.length = (i - z.length) % z.length := Nat.mod_eq_sub_mod (by omega)
      rw [e, List.getElem?_append_right (by omega), reps_get z n _ (by omega)]

/-- Zero cells again and again. -/
theorem reps_rel {ι : Inj} {z : Array Value} (hz : z.toList.all plain = true) (n m : Nat) (hm : m = n * z.size) : LRel (CRel ι) (reps n z.toList) ((Array.range m).map fun i => z[i % z.size]!).toList := by
  subst hm
  refine LRel.of_get _ _ (by simp [reps_length]) fun i x y hx hy => ?_
  have hi : i < n * z.size := by have := (List.getElem?_eq_some_iff.1 hx).1; rw [reps_length] at this; simpa using this
  rw [reps_get _ _ _ (by simpa using hi)] at hx
  have hpos : 0 < z.size := Nat.pos_of_ne_zero fun h => by rw [h] at hi; simp at hi
  have hmod : i % z.size < z.size := Nat.mod_lt _ hpos
  simp only [Array.toList_map, Array.toList_range, List.getElem?_map, List.getElem?_range hi, Option.map_some, Option.some.injEq] at hy
  subst hy
  simp only [Array.length_toList] at hx
  have hx2 : z[i % z.size]! = x := by rw [getElem!_def]; simp only [Array.getElem?_toList] at hx; rw [hx]
  rw [hx2]
  have hmem : x ∈ z.toList := by
    have : z[i % z.size]? = some x := by simpa using hx
    rw [Array.getElem?_eq_getElem hmod] at this
    simp at this
    rw [← this]; simp
  exact plain_rel (by simpa using List.all_eq_true.1 hz x hmem)

section
variable (P : Program)

theorem run_zeroValue {t : TypeId} {i : TypeInfo} {z : Value} (hi : P.info? t = some i) (hz : i.zero = some z) (w : World) : (zeroValue t).run P w = .ok z w := by
  simp [zeroValue, typeInfo, hi, hz]

theorem run_sizeOf {t : TypeId} {i : TypeInfo} (hi : P.info? t = some i) (w : World) : (sizeOf t).run P w = .ok i.size w := by
  simp [sizeOf, typeInfo, hi]

theorem run_size? {t : TypeId} {n : Nat} (h : size? P t = some n) (w : World) : (sizeOf t).run P w = .ok n w := by
  unfold size? at h
  cases hi : P.info? t with
  | none => rw [hi] at h; simp at h
  | some i => rw [hi] at h; simp at h; subst h; exact run_sizeOf P hi w

theorem run_isAgg {t : TypeId} {g : Bool} (h : agg? P t = some g) (w : World) : (isAgg t).run P w = .ok g w := by
  unfold agg? at h
  unfold isAgg
  cases hu : P.underlying t with
  | none => rw [hu] at h; simp at h
  | some d =>
    rw [hu] at h
    simp only [Sem.run_bind, run_underlying hu, Result.andThen_ok]
    cases d <;> simp_all <;> (subst h; rfl)

theorem zero_spec {t : TypeId} {z : List Value} (h : zero? P t = some z) : ∃ i zv, P.info? t = some i ∧ i.zero = some zv ∧ zv.cells.toList = z ∧ z.all plain = true ∧ z.length = i.size := by
  unfold zero? at h
  split at h
  · rename_i i hi
    split at h
    · rename_i zv hz
      split at h
      · rename_i hc
        simp only [Option.some.injEq] at h
        simp only [Bool.and_eq_true, beq_iff_eq] at hc
        subst h
        exact ⟨i, zv, hi, hz, rfl, hc.1, hc.2⟩
      · simp at h
    · simp at h
  · simp at h

theorem run_places (w : World) : ∀ (fs : List Field) (ps : List (Nat × Nat)), places P fs = some ps →
    (fs.mapM fun f => do pure (f.offset, ← sizeOf f.type) : Sem (List (Nat × Nat))).run P w = .ok ps w
  | [], ps, h => by simp only [places, Option.some.injEq] at h; subst h; simp
  | f :: fs, ps, h => by
    simp only [places] at h
    split at h
    · rename_i s ps' hs hps
      simp only [Option.some.injEq] at h; subst h
      have ih := run_places w fs ps' hps
      simp only [List.mapM_cons, Sem.run_bind, run_size? P hs, Result.andThen_ok, Sem.run_pure, ih]
    · simp at h

theorem run_places_arr (w : World) (fs : Array Field) (ps : List (Nat × Nat)) (h : places P fs.toList = some ps) :
    (fs.mapM fun f => do pure (f.offset, ← sizeOf f.type) : Sem (Array (Nat × Nat))).run P w = .ok ps.toArray w := by
  rw [Array.mapM_eq_mapM_toList]
  simp only [Sem.run_map, run_places P w fs.toList ps h, Result.andThen_ok]

theorem pickPlaces_rel {ps : List (Nat × Nat)} : ∀ {parts : List (Nat × Operand)} {qs : List (Nat × Nat)} (ρ : Operand → Value), pickPlaces ps parts = some qs →
    LRel (fun (p : Nat × Nat) (j : Nat × Value) => ps.toArray[j.1]? = some p) qs (parts.map fun x => (x.1, ρ x.2))
  | [], qs, ρ, h => by simp only [pickPlaces, Option.some.injEq] at h; subst h; exact .nil
  | (i, x) :: parts, qs, ρ, h => by
    simp only [pickPlaces] at h
    split at h
    · rename_i p r h1 h2
      simp only [Option.some.injEq] at h; subst h
      exact .cons (by simpa using h1) (pickPlaces_rel ρ h2)
    · simp at h

/-- The operands' values, one for one. -/
theorem zip_rel {ι : Inj} {ρ : Operand → Value} : ∀ {parts : List (Nat × Operand)} {vs : List Value}, LRel (V1Rel ι) vs ((parts.map (·.2)).map ρ) →
    LRel (fun v (j : Nat × Value) => V1Rel ι v j.2) vs (parts.map fun x => (x.1, ρ x.2))
  | [], vs, h => by simp at h; cases h; exact .nil
  | (i, x) :: parts, vs, h => by
    simp only [List.map_cons] at h
    cases h with
    | cons h1 h2 => exact .cons h1 (zip_rel h2)

theorem run_build (w : World) {ι : Inj} {t : TypeId} {z : List Value} {fs : Array Field} {ps qs : List (Nat × Nat)} {parts : Array (Nat × Operand)} {ρ : Operand → Value} {vs ics : List Value}
    (hz : zero? P t = some z) (hu : P.underlying t = some (.struct fs)) (hp : places P fs.toList = some ps) (hq : pickPlaces ps parts.toList = some qs)
    (hv : LRel (V1Rel ι) vs ((parts.toList.map (·.2)).map ρ)) (hf : fillC z qs vs = some ics) :
    ∃ rc : Array Value, (Instr.build t (parts.map fun (i, x) => (i, ρ x))).run P w = .ok (.agg rc) w ∧ LRel (CRel ι) ics rc.toList := by
  obtain ⟨i, zv, hi, hzv, he, hpl, hsz⟩ := zero_spec P hz
  obtain ⟨rc', h1, h2⟩ := fill_rel (ι := ι) (ps.toArray[·]?) qs vs (parts.toList.map fun x => (x.1, ρ x.2)) z ics zv.cells (zip_rel hv) (pickPlaces_rel ρ hq) (by rw [he]; exact plains_rel hpl) hf
  refine ⟨rc', ?_, h2⟩
  unfold Instr.build
  have e : (Array.map (fun x : Nat × Operand => (x.1, ρ x.2)) parts).toList = parts.toList.map fun x => (x.1, ρ x.2) := by simp
  simp only [Sem.run_bind, run_zeroValue P hi hzv, Result.andThen_ok, run_underlying hu, run_places_arr P w fs ps hp, e, h1]
  rfl

theorem elem_spec {t e : TypeId} (h : elem? P t = some e) : P.underlying t = some (.slice e) := by
  unfold elem? at h
  split at h
  · rename_i e' he; simp at h; subst h; exact he
  · simp at h

theorem run_buildSlice (w : World) {ι : Inj} {H : Heap} (hs : Sim ι H w) {t e : TypeId} {len : Nat} {z : List Value} {parts : Array (Nat × Operand)} {ρ : Operand → Value} {vs ics : List Value}
    (he : elem? P t = some e) (hz : zero? P e = some z) (hpos : 0 < z.length) (hlen : len * z.length ≤ 2 ^ 24)
    (hv : LRel (V1Rel ι) vs ((parts.toList.map (·.2)).map ρ)) (hf : fillC (reps len z) (parts.toList.map fun p => (p.1 * z.length, z.length)) vs = some ics) :
    ∃ (y : Value) (w' : World) (ι' : Inj), (Instr.buildSlice t len (parts.map fun (i, x) => (i, ρ x))).run P w = .ok y w' ∧ CRel ι' (.slice (some ⟨H.length, 0, none⟩) len len) y ∧
      Sim ι' (H ++ [some ⟨ics, z.length, true⟩]) w' ∧ Ext noE ι ι' H (H ++ [some ⟨ics, z.length, true⟩]) w w' := by
  obtain ⟨i, zv, hi, hzv, hze, hpl, hsz⟩ := zero_spec P hz
  have hzs : zv.cells.size = z.length := by rw [← hze]; simp
  have hbase : LRel (CRel ι) (reps len z) ((Array.range (len * i.size)).map fun j => zv.cells[j % zv.cells.size]!).toList := by
    have := reps_rel (ι := ι) (z := zv.cells) (by rw [hze]; exact hpl) len (len * i.size) (by rw [hzs, hsz])
    rwa [hze] at this
  have hpl2 : LRel (fun (p : Nat × Nat) (j : Nat × Value) => (fun i_1 => some (i_1 * i.size, i.size)) j.1 = some p) (parts.toList.map fun p => (p.1 * z.length, z.length)) (parts.toList.map fun x => (x.1, ρ x.2)) := by
    generalize parts.toList = l
    induction l with
    | nil => exact .nil
    | cons a l ih => exact .cons (by simp [hsz]) ih
  obtain ⟨rc', h1, h2⟩ := fill_rel (ι := ι) (fun i_1 => some (i_1 * i.size, i.size)) _ vs (parts.toList.map fun x => (x.1, ρ x.2)) _ ics _ (zip_rel hv) hpl2 hbase hf
  have hics : ics.length = rc'.size := by have := h2.len; simpa using this
  have flen : ∀ (ps : List (Nat × Nat)) (vs c c' : List Value), fillC c ps vs = some c' → c'.length = c.length := by
    intro ps
    induction ps with
    | nil => intro vs c c' h; cases vs <;> simp [fillC] at h; subst h; rfl
    | cons p ps ih =>
      intro vs c c' h
      cases vs with
      | nil => obtain ⟨_, _⟩ := p; simp [fillC] at h
      | cons v vs =>
        obtain ⟨off, size⟩ := p
        simp only [fillC] at h
        split at h
        · rename_i hc; rw [ih _ _ _ h, put_length _ _ _ (by omega)]
        · simp at h
  have hrcs : rc'.size = len * i.size := by rw [← hics, flen _ _ _ _ hf, reps_length, hsz]
  have hsim := hs.new (cs := ics) (sz := z.length) (rw_ := true) (C := rc') (e := e) (fz := (0, 0)) (fun _ => rfl) h2.cells_get (by omega) (fun _ h => by rw [← hics, h]; rfl)
  refine ⟨.slice (some ⟨w.heap.size, 0, none⟩) len len, _, _, ?_, ?_, hsim, Ext.alloc hs _ _ (Nat.le_refl _) _⟩
  · unfold Instr.buildSlice
    have e1 : (Array.map (fun x : Nat × Operand => (x.1, ρ x.2)) parts).toList = parts.toList.map fun x => (x.1, ρ x.2) := by simp
    simp only [Sem.run_bind, run_underlying (elem_spec P he), Result.andThen_ok, run_sizeOf P hi, e1]
    rw [if_neg (by rw [← hsz]; omega)]
    by_cases h0 : len * i.size = 0
    · have e2 : Array.map (fun j => (#[] : Array Value)[j % (#[] : Array Value).size]!) (Array.range (len * i.size)) = Array.map (fun j => zv.cells[j % zv.cells.size]!) (Array.range (len * i.size)) := by rw [h0]; simp
      simp only [Sem.run_bind, Sem.run_pure, Result.andThen_ok, if_pos h0]
      rw [e2, h1]
      rfl
    · simp only [if_neg h0, Sem.run_bind, run_zeroValue P hi hzv, Result.andThen_ok, Sem.run_pure]
      rw [h1]
      rfl
  · refine CRel.sl (L := ⟨w.heap.size, 0, rc'.size, z.length⟩) (by unfold updI; rw [if_pos rfl]) (Nat.le_refl _) (Nat.le_refl _) (.inr rfl) ?_
    simp only [hrcs, hsz, Nat.zero_add]; exact Nat.le_refl _

theorem run_makeSlice (w : World) {ι : Inj} {H : Heap} (hs : Sim ι H w) {t e : TypeId} {z : List Value} {b : Nat} {k k' : IntKind} {l c : Int}
    (he : elem? P t = some e) (hz : zero? P e = some z) (hpos : 0 < z.length) (hb : bytes? P e = some b) (h0 : 0 ≤ l) (h1 : l ≤ c) (h2 : c ≤ 2 ^ 38) (h3 : b ≤ 256) :
    ∃ (y : Value) (w' : World) (ι' : Inj), (Instr.makeSlice t (.int k l) (.int k' c)).run P w = .ok y w' ∧ CRel ι' (.slice (some ⟨H.length, 0, none⟩) l.toNat c.toNat) y ∧
      Sim ι' (H ++ [some ⟨reps c.toNat z, z.length, true⟩]) w' ∧ Ext noE ι ι' H (H ++ [some ⟨reps c.toNat z, z.length, true⟩]) w w' := by
  obtain ⟨i, zv, hi, hzv, hze, hpl, hsz⟩ := zero_spec P hz
  have hib : i.bytes = b := by unfold bytes? at hb; rw [hi] at hb; simpa using hb
  have hzs : zv.cells.size = z.length := by rw [← hze]; simp
  have hbase : LRel (CRel ι) (reps c.toNat z) ((Array.range (c.toNat * i.size)).map fun j => zv.cells[j % zv.cells.size]!).toList := by
    have := reps_rel (ι := ι) (z := zv.cells) (by rw [hze]; exact hpl) c.toNat (c.toNat * i.size) (by rw [hzs, hsz])
    rwa [hze] at this
  have hsim := hs.new (cs := reps c.toNat z) (sz := z.length) (rw_ := true) (C := (Array.range (c.toNat * i.size)).map fun j => zv.cells[j % zv.cells.size]!) (e := e) (fz := (0, 0)) (fun _ => rfl) hbase.cells_get (by simp [reps_length, hsz]) (fun _ h => by have := congrArg List.length h; rw [reps_length] at this; simpa [hsz] using this)
  have wl : IntKind.wrap .i64 l = l := by unfold IntKind.wrap IntKind.signed IntKind.bits; simp; omega
  have wc : IntKind.wrap .i64 c = c := by unfold IntKind.wrap IntKind.signed IntKind.bits; simp; omega
  have hbc : (b : Int) * c ≤ 2 ^ 48 := by
    have e1 : (b : Int) * c ≤ 256 * c := Int.mul_le_mul_of_nonneg_right (by omega) (by omega)
    omega
  have hbl : (b : Int) * l ≤ 2 ^ 48 := by
    have e1 : (b : Int) * l ≤ 256 * l := Int.mul_le_mul_of_nonneg_right (by omega) (by omega)
    omega
  refine ⟨.slice (some ⟨w.heap.size, 0, none⟩) l.toNat c.toNat, _, _, ?_, ?_, hsim, Ext.alloc hs _ _ (Nat.le_refl _) _⟩
  · unfold Instr.makeSlice
    simp only [Sem.run_bind, run_underlying (elem_spec P he), Result.andThen_ok, asInt, asIntOf, Sem.run_pure, wl, wc]
    have ht : (typeInfo e).run P w = .ok i w := by simp [typeInfo, hi]
    simp only [ht, Result.andThen_ok, hib]
    rw [if_neg (by simp; omega)]
    simp only [Sem.run_bind, run_askRoom, Result.andThen_ok, run_sizeOf P hi, Sem.run_pure]
    by_cases hn : c.toNat * i.size = 0
    · have e2 : Array.map (fun j => (#[] : Array Value)[j % (#[] : Array Value).size]!) (Array.range (c.toNat * i.size)) = Array.map (fun j => zv.cells[j % zv.cells.size]!) (Array.range (c.toNat * i.size)) := by rw [hn]; simp
      simp only [if_pos hn, Sem.run_bind, Sem.run_pure, Result.andThen_ok]
      rw [e2]
      rfl
    · simp only [if_neg hn, Sem.run_bind, run_zeroValue P hi hzv, Result.andThen_ok, Sem.run_pure]
      rfl
  · refine CRel.sl (L := ⟨w.heap.size, 0, _, z.length⟩) (by unfold updI; rw [if_pos rfl]) (by omega) (Nat.le_refl _) (.inr rfl) ?_
    simp [hsz]

end
end Go.Proofs.Ytpnbojehfngigaa.IM

/- The ideal machine: each operation that is no call and touches no box does in the real machine what it does in the ideal one. -/
namespace Go.Proofs.Ytpnbojehfngigaa.IM
open Go
set_option linter.unusedVariables false
set_option linter.unusedSimpArgs false

/-- An operation's operands, in the order in which the small code has them. -/
def opl : Op → List Operand
  | .move x | .assign x => [x]
  | .pick c a b => [c, a, b]
  | .box _ x => [x]
  | .build _ parts => parts.toList.map (·.2)
  | .buildSlice _ _ parts => parts.toList.map (·.2)
  | .load _ a => [a]
  | .store _ a x => [a, x]
  | .nilCheck x => [x]
  | .binOp _ _ x y _ => [x, y]
  | .unOp _ _ x => [x]
  | .convert _ _ x => [x]
  | .makeFunc _ _ captured => captured.toList
  | .makeSlice _ l c => [l, c]
  | .slice _ x lo hi _ => [x] ++ lo.toList ++ hi.toList
  | .fieldAddr _ x _ => [x]
  | .indexAddr _ x i => [x, i]
  | .extract x _ => [x]
  | .call c => match c.callee with
    | .value (.tmp t) => .tmp t :: c.args.toList
    | _ => c.args.toList
  | _ => []

theorem allV_rel {ι : Inj} : ∀ {xs : List EV} {ys vs : List Value}, LRel (VRel ι) xs ys → iexec.allV xs = some vs → LRel (V1Rel ι) vs ys
  | [], ys, vs, h, ha => by cases h; simp only [iexec.allV, Option.some.injEq] at ha; subst ha; exact .nil
  | .val v :: xs, ys, vs, h, ha => by
    cases h with
    | cons h1 h2 =>
      simp only [iexec.allV] at ha
      cases hq : iexec.allV xs with
      | none => rw [hq] at ha; simp at ha
      | some q => rw [hq] at ha; simp only [Option.map_some, Option.some.injEq] at ha; subst ha; exact .cons h1.v1 (allV_rel h2 hq)
  | .adr _ _ :: xs, ys, vs, h, ha => by simp [iexec.allV] at ha
  | .tup _ :: xs, ys, vs, h, ha => by simp [iexec.allV] at ha
  | .non :: xs, ys, vs, h, ha => by simp [iexec.allV] at ha

/-- What an operation leaves. -/
structure Left (P : Program) (s : Sem Next) (ι : Inj) (H : Heap) (w : World) (x : Option EV) (H' : Heap) : Prop where
  len : H.length ≤ H'.length
  ex : ∃ n w' ι', s.run P w = .ok n w' ∧ Sim ι' H' w' ∧ Ext noE ι ι' H H' w w' ∧ ((∃ v y, x = some v ∧ n = .value y ∧ VRel ι' v y) ∨ (x = none ∧ n = .skip))

theorem Left.pure {P : Program} {s : Sem Next} {ι : Inj} {H : Heap} {w : World} {v : EV} {y : Value} (hs : Sim ι H w) (hr : s.run P w = .ok (.value y) w) (hv : VRel ι v y) : Left P s ι H w (some v) H :=
  ⟨Nat.le_refl _, _, w, ι, hr, hs, Ext.refl _ _ _ _ _ hs, .inl ⟨v, y, rfl, rfl, hv⟩⟩

theorem Left.pure1 {P : Program} {s : Sem Next} {ι : Inj} {H : Heap} {w : World} {v y : Value} (hs : Sim ι H w) (hr : s.run P w = .ok (.value y) w) (hv : V1Rel ι v y) : Left P s ι H w (some (.val v)) H := Left.pure hs hr (.one hv)

theorem Left.new {P : Program} {s : Sem Next} {ι ι' : Inj} {H H' : Heap} {w w' : World} {v y : Value} (hr : s.run P w = .ok (.value y) w') (hv : CRel ι' v y) (hs : Sim ι' H' w') (he : Ext noE ι ι' H H' w w') (hl : H.length ≤ H'.length) :
    Left P s ι H w (some (.val v)) H' := ⟨hl, _, w', ι', hr, hs, he, .inl ⟨.val v, y, rfl, rfl, .one (.cell hv)⟩⟩

section
variable {P : Program} {C : Cfg} {ι : Inj} {H H' : Heap} {w : World} {ρ : Operand → Value} {bx bx' : List (List Value)} {x : Option EV}

theorem VRel.elim {e : EV} {y : Value} (h : VRel ι e y) : (∃ v, e = .val v ∧ V1Rel ι v y) ∨ (∃ vs ys, e = .tup vs ∧ y = .tuple ys ∧ LRel (V1Rel ι) vs ys.toList) := by
  cases h with
  | one h => exact .inl ⟨_, rfl, h⟩
  | tup h => exact .inr ⟨_, _, rfl, rfl, h⟩

theorem one_rel {y : Value} {xs : List EV} (h : LRel (VRel ι) xs [y]) : ∃ v, xs = [v] ∧ VRel ι v y := by
  cases h with
  | cons h t => cases t; exact ⟨_, rfl, h⟩

theorem two_rel {y z : Value} {xs : List EV} (h : LRel (VRel ι) xs [y, z]) : ∃ v u, xs = [v, u] ∧ VRel ι v y ∧ VRel ι u z := by
  cases h with
  | cons h t => cases t with
    | cons h' t => cases t; exact ⟨_, _, rfl, h, h'⟩

theorem three_rel {y z q : Value} {xs : List EV} (h : LRel (VRel ι) xs [y, z, q]) : ∃ v u t, xs = [v, u, t] ∧ VRel ι v y ∧ VRel ι u z ∧ VRel ι t q := by
  cases h with
  | cons h t => cases t with
    | cons h' t => cases t with
      | cons h'' t => cases t; exact ⟨_, _, _, rfl, h, h', h''⟩

theorem vrel_nagg {v y : Value} (h : V1Rel ι v y) (hv : ∀ xs, v ≠ .agg xs) : ∀ ys, y ≠ .agg ys := by
  intro ys e; subst e
  cases h with
  | cell h => cases h with
    | ptr h => cases h
  | agg h => exact hv _ rfl

theorem vrel_nnil {v y : Value} (h : V1Rel ι v y) : y ≠ .nilIface := by
  intro e; subst e
  cases h with
  | cell h => cases h with
    | ptr h => cases h

theorem isNone_rel {a : Option Addr} {n c : Nat} {y : Value} (h : V1Rel ι (.slice a n c) y) : ∃ a' n' c', y = .slice a' n' c' ∧ a'.isNone = a.isNone := by
  cases h.slc with
  | snil => exact ⟨_, _, _, rfl, rfl⟩
  | sl => exact ⟨_, _, _, rfl, rfl⟩
  | ptr h => cases h

theorem nil_rel {y : Value} (h : V1Rel ι (.slice none 0 0) y) : y = .slice none 0 0 := by
  cases h.slc with
  | snil => rfl
  | ptr h => cases h

theorem ieq_run (hs : Sim ι H w) {t : TypeId} {e : ETy} {a b a' b' : Value} {r : Bool} (he : ety P t = some e) (ha : V1Rel ι a a') (hb : V1Rel ι b b') (h : ieq e a b = some r) :
    (Op.equal t a' b').run P w = .ok r w ∧ (∀ op x y, (eqGuard op t x y a' b').run P w = .ok () w) ∧
    (∀ op, binOp op t a' b' = (match op with | .eql => (do Pure.pure (.bool (← Op.equal t a' b')) : Sem Value) | .neq => (do Pure.pure (.bool (!(← Op.equal t a' b'))) : Sem Value) | _ => binOp op t a' b')) := by
  unfold ieq at h
  split at h
  · rename_i a1 b1
    simp only [Option.some.injEq] at h; subst h
    have e1 := ha.bool; have e2 := hb.bool; subst e1; subst e2
    have hu : P.underlying t = some .bool := by
      unfold ety at he
      split at he <;> first | assumption | (simp at he; done) | (split at he <;> first | (simp at he; done) | (split at he <;> simp at he))
    refine ⟨equalIn_bool P w 9999 t a1 b1 hu, fun op x y => run_eqGuard_plain P w op t x y _ _ (by simp) (by simp), fun op => by cases op <;> rfl⟩
  · rename_i b1 n1 c1
    simp only [Option.some.injEq] at h; subst h
    have e1 := nil_rel ha; subst e1
    obtain ⟨a2, n2, c2, rfl, h2⟩ := isNone_rel hb
    have hu : ∃ e', P.underlying t = some (.slice e') := by
      unfold ety at he
      split at he <;> first | (exact ⟨_, ‹_›⟩) | (simp at he; done) | (split at he <;> first | (simp at he; done) | (split at he <;> simp at he))
    obtain ⟨e', hu⟩ := hu
    refine ⟨?_, fun op x y => run_eqGuard_plain P w op t x y _ _ (by simp) (by simp), fun op => by cases op <;> rfl⟩
    unfold Op.equal Op.equalIn
    simp only [Sem.run_bind, run_underlying hu, Result.andThen_ok, Op.maxDepth]
    rw [Sem.run_pure, h2]
  · rename_i b1 n1 c1 hne
    simp only [Option.some.injEq] at h; subst h
    have e1 := nil_rel hb; subst e1
    obtain ⟨a2, n2, c2, rfl, h2⟩ := isNone_rel ha
    have hu : ∃ e', P.underlying t = some (.slice e') := by
      unfold ety at he
      split at he <;> first | (exact ⟨_, ‹_›⟩) | (simp at he; done) | (split at he <;> first | (simp at he; done) | (split at he <;> simp at he))
    obtain ⟨e', hu⟩ := hu
    refine ⟨?_, fun op x y => run_eqGuard_plain P w op t x y _ _ (by simp) (by simp), fun op => by cases op <;> rfl⟩
    unfold Op.equal Op.equalIn
    simp only [Sem.run_bind, run_underlying hu, Result.andThen_ok, Op.maxDepth]
    cases a2 <;> simp_all
  · rename_i fs xs ys
    obtain ⟨xs', rfl, hx⟩ := ha.aggr
    obtain ⟨ys', rfl, hy⟩ := hb.aggr
    have hu : ∃ F, P.underlying t = some (.struct F) ∧ P.stoodInHeld t = false ∧ P.eqGuardType P.depth t = false ∧ fieldsEq P F.toList = some fs := by
      unfold ety at he
      split at he
      · simp at he
      · simp at he
      · simp at he
      · simp at he
      · rename_i F hF
        split at he
        · simp at he
        · rename_i hc
          split at he
          · rename_i os ho
            simp at he; subst he
            simp at hc
            exact ⟨F, hF, hc.1, hc.2, ho⟩
          · simp at he
      · simp at he
    obtain ⟨F, h1, h2, h3, h4⟩ := hu
    exact ⟨equalIn_struct P w 9998 t hx hy h1 h2 h4 h, fun op x y => run_eqGuard_agg P w op t x y _ _ h3, fun op => by cases op <;> rfl⟩
  · simp at h

theorem bin_run (hs : Sim ι H w) {t : TypeId} {e : ETy} {a b a' b' r : Value} {op : BinOp} {x y : Operand} (he : ety P t = some e) (ha : V1Rel ι a a') (hb : V1Rel ι b b') (h : ibin op e a b = some r) :
    ∃ r', (do eqGuard op t x y a' b'; binOp op t a' b' : Sem Value).run P w = .ok r' w ∧ V1Rel ι r r' := by
  unfold ibin at h
  split at h
  · rename_i k1 n1 k2 n2
    have e1 := ha.int; have e2 := hb.int; subst e1; subst e2
    have hg := run_eqGuard_plain P w op t x y (.int k1 n1) (.int k2 n2) (by simp) (by simp)
    simp only [Sem.run_bind, hg, Result.andThen_ok]
    split at h
    · rename_i hk; subst hk
      cases op <;> simp only [] at h <;> first
        | (simp at h; done)
        | (simp only [Option.some.injEq] at h; subst h; simp only [binOp, Op.intArith, Op.intBits, Op.intCmp, ne_eq, not_true_eq_false, if_false, Sem.run_pure]; first | exact ⟨_, rfl, .ofInt _ _⟩ | exact ⟨_, rfl, .ofBool _⟩)
        | (split at h
           · simp at h
           · rename_i hn
             simp only [Option.some.injEq] at h; subst h
             simp only [binOp, Op.intDiv, Op.shift, ne_eq, not_true_eq_false, if_false, hn, Sem.run_pure]
             exact ⟨_, rfl, .ofInt _ _⟩)
    · cases op <;> simp only [] at h <;> first
        | (simp at h; done)
        | (split at h
           · simp at h
           · rename_i hn
             simp only [Option.some.injEq] at h; subst h
             simp only [binOp, Op.shift, if_false, hn, Sem.run_pure]
             exact ⟨_, rfl, .ofInt _ _⟩)
  · rename_i hne
    cases op <;> simp only [] at h <;> first
      | (simp at h; done)
      | (cases hq : ieq e a b with
         | none => rw [hq] at h; simp at h
         | some q =>
           rw [hq] at h
           simp only [Option.map_some, Option.some.injEq] at h
           subst h
           obtain ⟨h1, h2, h3⟩ := ieq_run hs he ha hb hq
           simp only [Sem.run_bind, h2, Result.andThen_ok, h3]
           simp only [Sem.run_bind, h1, Result.andThen_ok, Sem.run_pure]
           exact ⟨_, rfl, .ofBool _⟩)

end
end Go.Proofs.Ytpnbojehfngigaa.IM

/- The ideal machine: operation by operation. -/
namespace Go.Proofs.Ytpnbojehfngigaa.IM
open Go
set_option linter.unusedVariables false
set_option linter.unusedSimpArgs false

theorem cArgs_eq {C : Cfg} {l : List Operand} {k k' : IK} {args : List IOpd} (h : cArgs C l k = some (k', args)) : k' = k ∧ cOpds C l = some args := by
  unfold cArgs at h
  cases hc : cOpds C l with
  | none => rw [hc] at h; simp at h
  | some ys => rw [hc] at h; simp at h; exact ⟨h.1.symm, by rw [h.2]⟩

section
variable {P : Program} {C : Cfg} {ι : Inj} {H H' : Heap} {w : World} {ρ : Operand → Value} {bx bx' : List (List Value)} {x : Option EV}

theorem run_v {s : Sem Value} {y : Value} {w' : World} (h : s.run P w = .ok y w') : (do Pure.pure (.value (← s)) : Sem Next).run P w = .ok (.value y) w' := by
  simp only [Sem.run_bind, h, Result.andThen_ok, Sem.run_pure]

theorem hop_ld (hs : Sim ι H w) {t : TypeId} {n : Nat} {g : Bool} {p q : Value} (hn : size? P t = some n) (hg : agg? P t = some g) (h1 : g = true ∨ n = 1) (hp : V1Rel ι p q)
    {cs : List Value} (h : H.rd p n = some cs) : ∃ y, (Instr.loadAt t q).run P w = .ok y w ∧ V1Rel ι (mkv g cs) y := by
  have hp' : PRel ι p q := by
    unfold Heap.rd at h
    split at h
    · exact hp.ptr
    · simp at h
  obtain ⟨r, o, ys, rfl, h2, h3, h4⟩ := hs.rd hp' h
  have hlen : cs.length = n := by rw [h2.len]; exact h3
  refine ⟨mkv g ys, ?_, mkv_rel h2 (by rw [hlen]; exact h1)⟩
  unfold Instr.loadAt Instr.sureAddr loadVar
  simp only [Sem.run_bind, Sem.run_pure, Result.andThen_ok, run_isAgg P hg]
  cases g with
  | true =>
    have hl := run_loadCells_list (P := P) w ⟨r, o, none⟩ ys h4
    rw [h3] at hl
    simp only [if_true, Sem.run_bind, run_size? P hn, Result.andThen_ok, hl, Sem.run_pure]
    rfl
  | false =>
    have hn1 : n = 1 := by simpa using h1
    subst hn1
    match ys, h3 with
    | [y], _ =>
      have := h4 0 y rfl
      rw [addr_add] at this
      simp only [Bool.false_eq_true, if_false, run_load, Nat.add_zero] at this ⊢
      rw [this]; rfl

theorem hop_st (hs : Sim ι H w) {t : TypeId} {n : Nat} {p q v u : Value} (hn : size? P t = some n) (hp : V1Rel ι p q) (hv : V1Rel ι v u)
    (hl : (cl v).length = n) (h : H.wr p (cl v) = some H') : ∃ w', (Instr.storeAt t q u).run P w = .ok () w' ∧ Sim ι H' w' ∧ Ext noE ι ι H H' w w' ∧ H'.length = H.length := by
  have hp' : PRel ι p q := by
    unfold Heap.wr at h
    split at h
    · exact hp.ptr
    · simp at h
  have hc := hv.cl
  obtain ⟨r, o, w', rfl, h1, h2, h3, h4⟩ := hs.wr hp' h hc P
  refine ⟨w', ?_, h2, h3, h4⟩
  unfold Instr.storeAt Instr.sureAddr storeVar
  have hsz : u.cells.size = n := by have := hc.len; simp at this; omega
  simp only [Sem.run_bind, Sem.run_pure, Result.andThen_ok, run_size? P hn]
  rw [if_neg (by simp [hsz])]
  exact h1

theorem run_newVar (e : TypeId) (v : Value) (w : World) : (newVar e v).run P w = .ok ⟨w.heap.size, 0, none⟩ (w.alloc (.cells v.cells e)) := rfl

theorem new_ptr (hs : Sim ι H w) {cs : List Value} {sz : Nat} {v : Value} {e : TypeId} (hc : LRel (CRel ι) cs v.cells.toList) :
    ∃ ι', CRel ι' (.pointer (some ⟨H.length, 0, none⟩)) (.pointer (some ⟨w.heap.size, 0, none⟩)) ∧ Sim ι' (H ++ [some ⟨cs, sz, true⟩]) (w.alloc (.cells v.cells e)) ∧ Ext noE ι ι' H (H ++ [some ⟨cs, sz, true⟩]) w (w.alloc (.cells v.cells e)) := by
  have hl := hc.len; simp at hl
  have hsim := hs.new (cs := cs) (sz := sz) (rw_ := true) (C := v.cells) (e := e) (fz := (0, 0)) (fun _ => rfl) hc.cells_get (by omega) (fun _ h => by rw [← hl, h]; rfl)
  refine ⟨_, ?_, hsim, Ext.alloc hs _ _ (Nat.le_refl _) _⟩
  exact .ptr (PRel.ptr (L := ⟨w.heap.size, 0, v.cells.size, sz⟩) (by unfold updI; rw [if_pos rfl]))

theorem cutS_run (hs : Sim ι H w) {t e : TypeId} {sz : Nat} {s s' r : Value} (hu : P.underlying t = some (.slice e)) (hz : size? P e = some sz) (hp : V1Rel ι s s') (lo hi : Option Int) (k k' : IntKind)
    (hsz : ∀ b o n c, s = .slice (some ⟨b, o, none⟩) n c → ∀ L, ι b = some L → L.sz = sz)
    (h : cutS s lo hi sz = some r) : ∃ r', (Instr.sliceAt t s' (lo.map (.int k)) (hi.map (.int k')) none).run P w = .ok r' w ∧ CRel ι r r' := by
  unfold cutS at h
  split at h
  · rename_i b o n c
    split at h
    · rename_i hc
      simp only [Option.some.injEq] at h; subst h
      have hsz := hsz b o n c rfl
      cases hp.slc with
      | @sl _ _ _ _ c' ro L hL hn hcc hro hlim =>
        have hLs := hsz L hL
        rw [hLs] at hlim
        obtain ⟨c1, c2, c3⟩ := hc
        have hb1 : ∀ (x : Int) (y : Nat) (k : IntKind) (code : BoundsCode), 0 ≤ x → x ≤ y → (Instr.sliceBound (.int k x) y code).run P w = .ok x.toNat w := by
          intro x y k code h1 h2
          unfold Instr.sliceBound asIntOf
          simp only [Sem.run_bind, Sem.run_pure, Result.andThen_ok]
          rw [if_pos ⟨h1, h2⟩]; rfl
        have hbd : (Instr.sliceBounds true n c' (lo.map (.int k)) (hi.map (.int k')) none).run P w = .ok ((lo.getD 0).toNat, (hi.getD n).toNat, c') w := by
          unfold Instr.sliceBounds
          cases lo with
          | none => cases hi with
            | none => simp
            | some hh =>
              simp only [Option.getD_some, Option.getD_none] at c1 c2 c3
              simp only [Option.map_some, Option.map_none, Sem.run_bind, Sem.run_pure, Result.andThen_ok, hb1 hh c' k' _ (by omega) (by omega), Option.getD_some, Option.getD_none]; rfl
          | some l => cases hi with
            | none =>
              simp only [Option.getD_some, Option.getD_none] at c1 c2 c3
              simp only [Option.map_some, Option.map_none, Sem.run_bind, Sem.run_pure, Result.andThen_ok, hb1 l n k _ (by omega) (by omega), Option.getD_some, Option.getD_none, Option.isSome_none, Bool.false_eq_true, if_false, Int.toNat_natCast]
            | some hh =>
              simp only [Option.getD_some, Option.getD_none] at c1 c2 c3
              simp only [Option.map_some, Option.map_none, Sem.run_bind, Sem.run_pure, Result.andThen_ok, hb1 hh c' k' _ (by omega) (by omega), hb1 l hh.toNat k _ (by omega) (by omega), Option.getD_some, Option.getD_none, Option.isSome_none, Bool.false_eq_true, if_false]
        generalize hlo : (lo.getD 0).toNat = l at *
        generalize hhi : (hi.getD n).toNat = hh at *
        have hlh : l ≤ hh := by omega
        have hhc : hh ≤ c := by omega
        refine ⟨.slice (if c' = l then some ⟨L.r, ro, none⟩ else some ⟨L.r, ro + l * sz, none⟩) (hh - l) (c' - l), ?_, ?_⟩
        · unfold Instr.sliceAt Instr.slice
          simp only [Sem.run_bind, run_underlying hu, Result.andThen_ok, hbd, run_size? P hz, Sem.run_pure]
          by_cases hm : c' = l
          · simp [hm]
          · simp only [if_neg hm, Option.map_some, addr_add]
        · have hmul : (c' - l) * sz + l * sz = c' * sz := by rw [← Nat.add_mul]; congr 1; omega
          by_cases hm : c' = l
          · rw [if_pos hm]
            refine CRel.sl hL (by omega) (by omega) (.inl (by omega)) ?_
            rw [hm]; simp; omega
          · rw [if_neg hm]
            refine CRel.sl hL (by omega) (by omega) (.inr ?_) ?_
            · rcases hro with h | h <;> omega
            · rw [hLs]; omega
      | ptr h => cases h
    · simp at h
  · split at h
    · rename_i hc
      simp only [Option.some.injEq] at h; subst h
      have e1 := nil_rel hp; subst e1
      refine ⟨.slice none 0 0, ?_, .snil⟩
      obtain ⟨c1, c2⟩ := hc
      unfold Instr.sliceAt Instr.slice
      simp only [Sem.run_bind, run_underlying hu, Result.andThen_ok]
      have hb1 : ∀ (k : IntKind) (code : BoundsCode), (Instr.sliceBound (.int k 0) 0 code).run P w = .ok 0 w := by
        intro k code; unfold Instr.sliceBound asIntOf; simp
      have hbd : (Instr.sliceBounds true 0 0 (lo.map (.int k)) (hi.map (.int k')) none).run P w = .ok (0, 0, 0) w := by
        unfold Instr.sliceBounds
        cases lo with
        | none => cases hi with
          | none => simp
          | some hh => simp only [Option.getD_some] at c2; subst c2; simp [hb1]
        | some l =>
          simp only [Option.getD_some] at c1; subst c1
          cases hi with
          | none => simp [hb1]
          | some hh => simp only [Option.getD_some] at c2; subst c2; simp [hb1]
      simp [hbd, run_size? P hz]
    · simp at h
  · simp at h

end
end Go.Proofs.Ytpnbojehfngigaa.IM

/- The ideal machine: every operation that is no call and touches no box, in one. -/
namespace Go.Proofs.Ytpnbojehfngigaa.IM
open Go
set_option linter.unusedVariables false
set_option linter.unusedSimpArgs false

section
variable {P : Program} {C : Cfg} {ι : Inj} {H H' : Heap} {w : World} {ρ : Operand → Value} {bx bx' : List (List Value)} {x : Option EV}

theorem szOk_spec (hs : Sim ι H w) {s : Value} {sz : Nat} (h : H.szOk s sz = true) : ∀ b o n c, s = .slice (some ⟨b, o, none⟩) n c → ∀ L, ι b = some L → L.sz = sz := by
  rintro b o n c rfl L hL
  simp only [Heap.szOk] at h
  split at h
  · rename_i B hB
    have := (hs.blk b L B hL hB).sz
    simp at h; omega
  · simp at h

theorem map_some_eq {α β : Type} {o : Option α} {f : α → β} {b : β} (h : o.map f = some b) : ∃ a, o = some a ∧ f a = b := by
  cases o with
  | none => simp at h
  | some a => exact ⟨a, rfl, by simpa using h⟩

/-- Where a tuple can't stand. -/
theorem val_of {e : EV} {y : Value} (h : VRel ι e y) (hn : ∀ vs, e ≠ .tup vs) : ∃ v, e = .val v ∧ V1Rel ι v y := by
  rcases h.elim with h | ⟨vs, ys, rfl, _⟩
  · exact h
  · exact absurd rfl (hn _)

abbrev Res := Option (Option EV × List (List Value) × Heap)

theorem hop_mv (hs : Sim ι H w) {o : Oper} {y : Operand} (ho : o.op = .move y ∨ o.op = .assign y) {xs : List EV} (hv : LRel (VRel ι) xs [ρ y])
    (hx : iexec .mv xs bx H = some (x, bx', H')) : bx' = bx ∧ Left P (execOp ρ o) ι H w x H' := by
  obtain ⟨v, rfl, h1⟩ := one_rel hv
  have hr : (execOp ρ o).run P w = .ok (.value (ρ y)) w := by
    rcases ho with ho | ho <;> (unfold execOp; simp [ho])
  cases v with
  | val v =>
    simp only [iexec, Option.some.injEq, Prod.mk.injEq] at hx
    obtain ⟨rfl, rfl, rfl⟩ := hx
    exact ⟨rfl, Left.pure hs hr h1⟩
  | tup v =>
    simp only [iexec, Option.some.injEq, Prod.mk.injEq] at hx
    obtain ⟨rfl, rfl, rfl⟩ := hx
    exact ⟨rfl, Left.pure hs hr h1⟩
  | adr t off => cases h1
  | non => cases h1

theorem hop_pick (hs : Sim ι H w) {o : Oper} {c a b : Operand} (ho : o.op = .pick c a b) {xs : List EV} (hv : LRel (VRel ι) xs [ρ c, ρ a, ρ b])
    (hx : iexec .pick xs bx H = some (x, bx', H')) : bx' = bx ∧ Left P (execOp ρ o) ι H w x H' := by
  obtain ⟨v, u, t, rfl, h1, h2, h3⟩ := three_rel hv
  cases v with
  | adr => cases h1
  | non => cases h1
  | tup v => exact absurd (show (none : Res) = _ from hx) (by simp)
  | val v =>
    cases v <;> first
      | exact absurd (show (none : Res) = _ from hx) (by simp)
      | skip
    rename_i c'
    have e1 := h1.v1.bool
    have hr : (execOp ρ o).run P w = .ok (.value (if c' then ρ a else ρ b)) w := by
      unfold execOp
      simp only [ho, e1, asBool, Sem.run_bind, Sem.run_pure, Result.andThen_ok]
    simp only [iexec] at hx
    split at hx
    case isFalse => simp at hx
    cases c' with
    | true =>
      cases u with
      | val u =>
        simp only [Option.some.injEq, Prod.mk.injEq] at hx
        obtain ⟨rfl, rfl, rfl⟩ := hx
        exact ⟨rfl, Left.pure hs hr (by simpa using h2)⟩
      | adr => cases h2
      | non => cases h2
      | tup => simp at hx
    | false =>
      cases t with
      | val t =>
        simp only [Option.some.injEq, Prod.mk.injEq] at hx
        obtain ⟨rfl, rfl, rfl⟩ := hx
        exact ⟨rfl, Left.pure hs hr (by simpa using h3)⟩
      | adr => cases h3
      | non => cases h3
      | tup => simp at hx

theorem hop_bin (hs : Sim ι H w) {o : Oper} {bop : BinOp} {t t' : TypeId} {a b : Operand} {e : ETy} (ho : o.op = .binOp bop t a b t') (he : ety P t = some e) {xs : List EV} (hv : LRel (VRel ι) xs [ρ a, ρ b])
    (hx : iexec (.bin bop e) xs bx H = some (x, bx', H')) : bx' = bx ∧ Left P (execOp ρ o) ι H w x H' := by
  obtain ⟨v, u, rfl, h1, h2⟩ := two_rel hv
  obtain ⟨v', hE, gh1⟩ := val_of h1 (by rintro vs rfl; exact absurd (show (none : Res) = _ from hx) (by simp))
  subst hE; clear h1; have h1 := gh1; clear gh1; obtain ⟨v, rfl⟩ : ∃ z, z = v' := ⟨_, rfl⟩
  obtain ⟨u', hE, gh2⟩ := val_of h2 (by rintro vs rfl; exact absurd (show (none : Res) = _ from hx) (by simp))
  subst hE; clear h2; have h2 := gh2; clear gh2; obtain ⟨u, rfl⟩ : ∃ z, z = u' := ⟨_, rfl⟩
  simp only [iexec] at hx
  obtain ⟨r, hr, hq⟩ := map_some_eq hx
  simp only [Prod.mk.injEq] at hq
  obtain ⟨rfl, rfl, rfl⟩ := hq
  obtain ⟨r', h3, h4⟩ := bin_run (x := a) (y := b) hs he h1 h2 hr
  refine ⟨rfl, Left.pure1 hs (y := r') ?_ h4⟩
  unfold execOp
  simp only [ho]
  exact run_v h3

theorem hop_un (hs : Sim ι H w) {o : Oper} {t : TypeId} {a : Operand} {u : UnOp} {k : IK} (ho : o.op = .unOp u t a) (hk : (u = .not ∧ k = .not) ∨ (u = .neg ∧ k = .neg)) {xs : List EV} (hv : LRel (VRel ι) xs [ρ a])
    (hx : iexec k xs bx H = some (x, bx', H')) : bx' = bx ∧ Left P (execOp ρ o) ι H w x H' := by
  obtain ⟨v, rfl, h1⟩ := one_rel hv
  obtain ⟨v', hE, gh1⟩ := val_of h1 (by rintro vs rfl; rcases hk with ⟨rfl, rfl⟩ | ⟨rfl, rfl⟩ <;> exact absurd (show (none : Res) = _ from hx) (by simp))
  subst hE; clear h1; have h1 := gh1; clear gh1; obtain ⟨v, rfl⟩ : ∃ z, z = v' := ⟨_, rfl⟩
  rcases hk with ⟨rfl, rfl⟩ | ⟨rfl, rfl⟩
  · cases v <;> first
      | exact absurd (show (none : Res) = _ from hx) (by simp)
      | skip
    simp only [iexec, Option.some.injEq, Prod.mk.injEq] at hx
    obtain ⟨rfl, rfl, rfl⟩ := hx
    have e1 := h1.bool
    refine ⟨rfl, Left.pure1 hs (y := .bool _) ?_ (.ofBool _)⟩
    unfold execOp
    simp only [ho, e1]
    exact run_v rfl
  · cases v <;> first
      | exact absurd (show (none : Res) = _ from hx) (by simp)
      | skip
    simp only [iexec, Option.some.injEq, Prod.mk.injEq] at hx
    obtain ⟨rfl, rfl, rfl⟩ := hx
    have e1 := h1.int
    refine ⟨rfl, Left.pure1 hs (y := .int _ _) ?_ (.ofInt _ _)⟩
    unfold execOp
    simp only [ho, e1]
    exact run_v rfl

theorem ptr_of_addP {p q : Value} {off : Nat} (h : addP p off = some q) : ∃ b o, p = .pointer (some ⟨b, o, none⟩) ∧ q = .pointer (some ⟨b, o + off, none⟩) := by
  unfold addP at h
  split at h
  · rename_i b o; simp only [Option.some.injEq] at h; exact ⟨b, o, rfl, h.symm⟩
  · simp at h

theorem fieldPlace_run {fd : Field} {m : Nat} (hsz : size? P fd.type = some (m + 1)) (a : Addr) (w : World) : (fieldPlace a fd).run P w = .ok (a.add fd.offset) w := by
  unfold fieldPlace
  simp only [Sem.run_bind, run_size? P hsz, Result.andThen_ok]
  rw [if_neg (by omega)]; rfl

theorem hop_fa (hs : Sim ι H w) {o : Oper} {s : TypeId} {a : Operand} {f m : Nat} {fs : Array Field} {fd : Field} (ho : o.op = .fieldAddr s a f) (hu : P.underlying s = some (.struct fs)) (hf : fs[f]? = some fd) (hsz : size? P fd.type = some (m + 1))
    {xs : List EV} (hv : LRel (VRel ι) xs [ρ a]) (hx : iexec (.fa fd.offset) xs bx H = some (x, bx', H')) : bx' = bx ∧ Left P (execOp ρ o) ι H w x H' := by
  obtain ⟨v, rfl, h1⟩ := one_rel hv
  obtain ⟨v', hE, gh1⟩ := val_of h1 (by rintro vs rfl; exact absurd (show (none : Res) = _ from hx) (by simp))
  subst hE; clear h1; have h1 := gh1; clear gh1; obtain ⟨v, rfl⟩ : ∃ z, z = v' := ⟨_, rfl⟩
  simp only [iexec] at hx
  obtain ⟨q, hq, hq2⟩ := map_some_eq hx
  simp only [Prod.mk.injEq] at hq2
  obtain ⟨rfl, rfl, rfl⟩ := hq2
  obtain ⟨b, off, rfl, rfl⟩ := ptr_of_addP hq
  obtain ⟨L, hL, hq⟩ : ∃ L, ι b = some L ∧ ρ a = .pointer (some ⟨L.r, L.base + off, none⟩) := by
    have := h1.ptr
    generalize ρ a = q at this
    cases this with
    | ptr h => exact ⟨_, h, rfl⟩
  refine ⟨rfl, Left.pure1 hs (y := .pointer (some ⟨L.r, L.base + (off + fd.offset), none⟩)) ?_ (.cell (.ptr (.ptr hL)))⟩
  unfold execOp
  simp only [ho, hq]
  refine run_v ?_
  unfold Instr.fieldAt Instr.sureAddr
  simp only [Sem.run_bind, run_underlying hu, Result.andThen_ok, hf, Sem.run_pure, fieldPlace_run hsz, addr_add, Nat.add_assoc]

theorem hop_ia (hs : Sim ι H w) {o : Oper} {t e : TypeId} {a i : Operand} {sz : Nat} (ho : o.op = .indexAddr t a i) (hu : P.underlying t = some (.slice e)) (hz : size? P e = some sz)
    {xs : List EV} (hv : LRel (VRel ι) xs [ρ a, ρ i]) (hx : iexec (.ia sz) xs bx H = some (x, bx', H')) : bx' = bx ∧ Left P (execOp ρ o) ι H w x H' := by
  obtain ⟨v, u, rfl, h1, h2⟩ := two_rel hv
  obtain ⟨v', hE, gh1⟩ := val_of h1 (by rintro vs rfl; exact absurd (show (none : Res) = _ from hx) (by simp))
  subst hE; clear h1; have h1 := gh1; clear gh1; obtain ⟨v, rfl⟩ : ∃ z, z = v' := ⟨_, rfl⟩
  obtain ⟨u', hE, gh2⟩ := val_of h2 (by rintro vs rfl; exact absurd (show (none : Res) = _ from hx) (by simp))
  subst hE; clear h2; have h2 := gh2; clear gh2; obtain ⟨u, rfl⟩ : ∃ z, z = u' := ⟨_, rfl⟩
  simp only [iexec] at hx
  obtain ⟨q, hq, hq2⟩ := map_some_eq hx
  simp only [Prod.mk.injEq] at hq2
  obtain ⟨rfl, rfl, rfl⟩ := hq2
  unfold elemP at hq
  split at hq
  · rename_i b off n c k j
    split at hq
    · rename_i hj
      simp only [Option.some.injEq] at hq; subst hq
      obtain ⟨L, c', ro, hL, hn, hc, hro, hlim, hEq⟩ : ∃ L c' ro, ι b = some L ∧ n ≤ c ∧ c ≤ c' ∧ (c' = 0 ∨ ro = L.base + off) ∧ ro + c' * L.sz ≤ L.lim ∧ ρ a = .slice (some ⟨L.r, ro, none⟩) n c' := by
        have := h1.slc
        generalize ρ a = q at this
        cases this with
        | sl a b c d e => exact ⟨_, _, _, a, b, c, d, e, rfl⟩
        | ptr h => cases h
      have hro : ro = L.base + off := hro.resolve_left (by omega)
      subst hro
      refine ⟨rfl, Left.pure1 hs (y := .pointer (some ⟨L.r, L.base + (off + j.toNat * sz), none⟩)) ?_ (.cell (.ptr (.ptr hL)))⟩
      have e2 := h2.int
      unfold execOp
      simp only [ho, hEq, e2]
      refine run_v ?_
      unfold Instr.indexAt asIntOf
      simp only [Sem.run_bind, run_underlying hu, Result.andThen_ok, Sem.run_pure, run_size? P hz]
      rw [if_pos hj]
      simp only [Sem.run_bind, run_size? P hz, Result.andThen_ok, Sem.run_pure, addr_add, Nat.add_assoc]
    · simp at hq
  · simp at hq

theorem hop_ldh (hs : Sim ι H w) {o : Oper} {t : TypeId} {a : Operand} {n : Nat} {g : Bool} (ho : o.op = .load t a) (hn : size? P t = some n) (hg : agg? P t = some g) (h1 : g = true ∨ n = 1)
    {xs : List EV} (hv : LRel (VRel ι) xs [ρ a]) (hx : iexec (.ld n g) xs bx H = some (x, bx', H')) : bx' = bx ∧ Left P (execOp ρ o) ι H w x H' := by
  obtain ⟨v, rfl, h2⟩ := one_rel hv
  obtain ⟨v', hE, gh2⟩ := val_of h2 (by rintro vs rfl; exact absurd (show (none : Res) = _ from hx) (by simp))
  subst hE; clear h2; have h2 := gh2; clear gh2; obtain ⟨v, rfl⟩ : ∃ z, z = v' := ⟨_, rfl⟩
  simp only [iexec] at hx
  obtain ⟨cs, hc, hq2⟩ := map_some_eq hx
  simp only [Prod.mk.injEq] at hq2
  obtain ⟨rfl, rfl, rfl⟩ := hq2
  obtain ⟨y, h3, h4⟩ := hop_ld hs hn hg h1 h2 hc
  refine ⟨rfl, Left.pure1 hs (y := y) ?_ h4⟩
  unfold execOp
  simp only [ho]
  exact run_v h3

end
end Go.Proofs.Ytpnbojehfngigaa.IM

/- The ideal machine: the other operations, and all of them in one. -/
namespace Go.Proofs.Ytpnbojehfngigaa.IM
open Go
set_option linter.unusedVariables false
set_option linter.unusedSimpArgs false

section
variable {P : Program} {C : Cfg} {ι : Inj} {H H' : Heap} {w : World} {ρ : Operand → Value} {bx bx' : List (List Value)} {x : Option EV}

theorem hop_sth (hs : Sim ι H w) {o : Oper} {t : TypeId} {a y : Operand} {n : Nat} (ho : o.op = .store t a y) (hn : size? P t = some n)
    {xs : List EV} (hv : LRel (VRel ι) xs [ρ a, ρ y]) (hx : iexec (.st n) xs bx H = some (x, bx', H')) : bx' = bx ∧ Left P (execOp ρ o) ι H w x H' := by
  obtain ⟨v, u, rfl, h1, h2⟩ := two_rel hv
  obtain ⟨v', hE, gh1⟩ := val_of h1 (by rintro vs rfl; exact absurd (show (none : Res) = _ from hx) (by simp))
  subst hE; clear h1; have h1 := gh1; clear gh1; obtain ⟨v, rfl⟩ : ∃ z, z = v' := ⟨_, rfl⟩
  obtain ⟨u', hE, gh2⟩ := val_of h2 (by rintro vs rfl; exact absurd (show (none : Res) = _ from hx) (by simp))
  subst hE; clear h2; have h2 := gh2; clear gh2; obtain ⟨u, rfl⟩ : ∃ z, z = u' := ⟨_, rfl⟩
  simp only [iexec] at hx
  split at hx
  · rename_i hl
    obtain ⟨H1, hw, hq⟩ := map_some_eq hx
    simp only [Prod.mk.injEq] at hq
    obtain ⟨rfl, rfl, rfl⟩ := hq
    obtain ⟨w', h3, h4, h5, h6⟩ := hop_st hs hn h1 h2 hl hw
    refine ⟨rfl, by omega, .skip, w', ι, ?_, h4, h5, .inr ⟨rfl, rfl⟩⟩
    unfold execOp
    simp only [ho, Sem.run_bind, h3, Result.andThen_ok, Sem.run_pure]
  · simp at hx

theorem hop_ah (hs : Sim ι H w) {o : Oper} {t : TypeId} {z : List Value} (ho : o.op = .alloc t) (hz : zero? P t = some z)
    (hx : iexec (.ah z) [] bx H = some (x, bx', H')) : bx' = bx ∧ Left P (execOp ρ o) ι H w x H' := by
  simp only [iexec, Option.some.injEq, Prod.mk.injEq] at hx
  obtain ⟨rfl, rfl, rfl⟩ := hx
  obtain ⟨i, zv, hi, hzv, he, hpl, hsz⟩ := zero_spec P hz
  obtain ⟨ι', h1, h2, h3⟩ := new_ptr hs (cs := z) (sz := z.length) (v := zv) (e := t) (by rw [he]; exact plains_rel hpl)
  refine ⟨rfl, Left.new ?_ h1 h2 h3 (by simp)⟩
  unfold execOp
  simp only [ho]
  refine run_v ?_
  unfold Instr.alloc
  simp only [Sem.run_bind, run_zeroValue P hi hzv, Result.andThen_ok, run_newVar, Sem.run_pure]

theorem hop_bh (hs : Sim ι H w) {o : Oper} {t : TypeId} {y : Operand} {n : Nat} (ho : o.op = .box t y)
    {xs : List EV} (hv : LRel (VRel ι) xs [ρ y]) (hx : iexec (.bh n) xs bx H = some (x, bx', H')) : bx' = bx ∧ Left P (execOp ρ o) ι H w x H' := by
  obtain ⟨v, rfl, h1⟩ := one_rel hv
  obtain ⟨v', hE, gh1⟩ := val_of h1 (by rintro vs rfl; exact absurd (show (none : Res) = _ from hx) (by simp))
  subst hE; clear h1; have h1 := gh1; clear gh1; obtain ⟨v, rfl⟩ : ∃ z, z = v' := ⟨_, rfl⟩
  simp only [iexec] at hx
  split at hx
  · rename_i hl
    simp only [Option.some.injEq, Prod.mk.injEq] at hx
    obtain ⟨rfl, rfl, rfl⟩ := hx
    obtain ⟨ι', h2, h3, h4⟩ := new_ptr hs (cs := cl v) (sz := n) (v := ρ y) (e := t) h1.cl
    refine ⟨rfl, Left.new ?_ h2 h3 h4 (by simp)⟩
    unfold execOp
    simp only [ho]
    refine run_v ?_
    unfold Instr.box
    simp only [Sem.run_bind, run_newVar, Result.andThen_ok, Sem.run_pure]
  · simp at hx

theorem hop_bd (hs : Sim ι H w) {o : Oper} {t : TypeId} {parts : Array (Nat × Operand)} {z : List Value} {fs : Array Field} {ps qs : List (Nat × Nat)} (ho : o.op = .build t parts)
    (hz : zero? P t = some z) (hu : P.underlying t = some (.struct fs)) (hp : places P fs.toList = some ps) (hq : pickPlaces ps parts.toList = some qs)
    {xs : List EV} (hv : LRel (VRel ι) xs ((parts.toList.map (·.2)).map ρ)) (hx : iexec (.bd z qs) xs bx H = some (x, bx', H')) : bx' = bx ∧ Left P (execOp ρ o) ι H w x H' := by
  simp only [iexec] at hx
  split at hx
  · rename_i vs hvs
    obtain ⟨ics, h1, h2⟩ := map_some_eq hx
    simp only [Prod.mk.injEq] at h2
    obtain ⟨rfl, rfl, rfl⟩ := h2
    obtain ⟨rc, h3, h4⟩ := run_build P w (ρ := ρ) hz hu hp hq (allV_rel hv hvs) h1
    refine ⟨rfl, Left.pure1 hs (y := .agg rc) ?_ ?_⟩
    · unfold execOp
      simp only [ho]
      exact run_v h3
    · have := V1Rel.agg (ι := ι) h4
      simpa using this
  · simp at hx

theorem hop_bs (hs : Sim ι H w) {o : Oper} {t e : TypeId} {len : Nat} {parts : Array (Nat × Operand)} {z : List Value} (ho : o.op = .buildSlice t len parts)
    (he : elem? P t = some e) (hz : zero? P e = some z) (hpos : 0 < z.length)
    {xs : List EV} (hv : LRel (VRel ι) xs ((parts.toList.map (·.2)).map ρ)) (hx : iexec (.bs len z.length z (parts.toList.map fun p => (p.1 * z.length, z.length))) xs bx H = some (x, bx', H')) : bx' = bx ∧ Left P (execOp ρ o) ι H w x H' := by
  simp only [iexec] at hx
  split at hx
  · rename_i vs hvs
    split at hx
    · rename_i hlen
      obtain ⟨ics, h1, h2⟩ := map_some_eq hx
      simp only [Prod.mk.injEq] at h2
      obtain ⟨rfl, rfl, rfl⟩ := h2
      obtain ⟨y, w', ι', h3, h4, h5, h6⟩ := run_buildSlice P w hs (ρ := ρ) he hz hpos hlen (allV_rel hv hvs) h1
      refine ⟨rfl, Left.new ?_ h4 h5 h6 (by simp)⟩
      unfold execOp
      simp only [ho]
      exact run_v h3
    · simp at hx
  · simp at hx

theorem hop_nc (hs : Sim ι H w) {o : Oper} {y : Operand} (ho : o.op = .nilCheck y) {xs : List EV} (hv : LRel (VRel ι) xs [ρ y])
    (hx : iexec .nc xs bx H = some (x, bx', H')) : bx' = bx ∧ Left P (execOp ρ o) ι H w x H' := by
  obtain ⟨v, rfl, h1⟩ := one_rel hv
  obtain ⟨v', hE, gh1⟩ := val_of h1 (by rintro vs rfl; exact absurd (show (none : Res) = _ from hx) (by simp))
  subst hE; clear h1; have h1 := gh1; clear gh1; obtain ⟨v, rfl⟩ : ∃ z, z = v' := ⟨_, rfl⟩
  cases v <;> first
    | exact absurd (show (none : Res) = _ from hx) (by simp)
    | skip
  rename_i a
  cases a with
  | none => exact absurd (show (none : Res) = _ from hx) (by simp)
  | some a =>
    simp only [iexec, Option.some.injEq, Prod.mk.injEq] at hx
    obtain ⟨rfl, rfl, rfl⟩ := hx
    obtain ⟨a', hq⟩ : ∃ a', ρ y = .pointer (some a') := by
      have := h1.ptr
      generalize ρ y = q at this
      cases this with
      | ptr h => exact ⟨_, rfl⟩
    refine ⟨rfl, Left.pure1 hs (y := ρ y) ?_ h1⟩
    unfold execOp
    simp only [ho, hq, Sem.run_pure]

theorem hop_mk (hs : Sim ι H w) {o : Oper} {t e : TypeId} {l c : Operand} {z : List Value} {b : Nat} (ho : o.op = .makeSlice t l c)
    (he : elem? P t = some e) (hz : zero? P e = some z) (hpos : 0 < z.length) (hb : bytes? P e = some b)
    {xs : List EV} (hv : LRel (VRel ι) xs [ρ l, ρ c]) (hx : iexec (.mk z b) xs bx H = some (x, bx', H')) : bx' = bx ∧ Left P (execOp ρ o) ι H w x H' := by
  obtain ⟨v, u, rfl, h1, h2⟩ := two_rel hv
  obtain ⟨v', hE, gh1⟩ := val_of h1 (by rintro vs rfl; exact absurd (show (none : Res) = _ from hx) (by simp))
  subst hE; clear h1; have h1 := gh1; clear gh1; obtain ⟨v, rfl⟩ : ∃ z, z = v' := ⟨_, rfl⟩
  cases v <;> first
    | exact absurd (show (none : Res) = _ from hx) (by simp)
    | skip
  obtain ⟨u', hE, gh2⟩ := val_of h2 (by rintro vs rfl; exact absurd (show (none : Res) = _ from hx) (by simp))
  subst hE; clear h2; have h2 := gh2; clear gh2; obtain ⟨u, rfl⟩ : ∃ z, z = u' := ⟨_, rfl⟩
  cases u <;> first
    | exact absurd (show (none : Res) = _ from hx) (by simp)
    | skip
  rename_i k n k' m
  simp only [iexec] at hx
  split at hx
  · rename_i hc
    simp only [Option.some.injEq, Prod.mk.injEq] at hx
    obtain ⟨rfl, rfl, rfl⟩ := hx
    obtain ⟨y, w', ι', h3, h4, h5, h6⟩ := run_makeSlice P w hs (k := k) (k' := k') he hz hpos hb hc.1 hc.2.1 hc.2.2.1 hc.2.2.2
    refine ⟨rfl, Left.new ?_ h4 h5 h6 (by simp)⟩
    unfold execOp
    simp only [ho, h1.int, h2.int]
    exact run_v h3
  · simp at hx

theorem hop_sl_ok (hs : Sim ι H w) {o : Oper} {t e : TypeId} {a : Operand} {lo hi : Option Operand} {sz : Nat} (ho : o.op = .slice t a lo hi none) (hu : P.underlying t = some (.slice e)) (hz : size? P e = some sz)
    {s : Value} {lo' hi' : Option Int} {k k' : IntKind} (h1 : V1Rel ι s (ρ a)) (hlo : lo.map ρ = lo'.map (.int k)) (hhi : hi.map ρ = hi'.map (.int k')) (h2 : H.szOk s sz = true) {r : Value} (h3 : cutS s lo' hi' sz = some r) :
    Left P (execOp ρ o) ι H w (some (.val r)) H := by
  obtain ⟨r', h4, h5⟩ := cutS_run (k := k) (k' := k') hs hu hz h1 lo' hi' (szOk_spec hs h2) h3
  refine Left.pure1 hs (y := r') ?_ (.cell h5)
  unfold execOp
  simp only [ho, hlo, hhi, Option.map_none]
  exact run_v h4

theorem hop_sl (hs : Sim ι H w) {o : Oper} {t e : TypeId} {a : Operand} {lo hi : Option Operand} {sz : Nat} (ho : o.op = .slice t a lo hi none) (hu : P.underlying t = some (.slice e)) (hz : size? P e = some sz)
    {xs : List EV} (hv : LRel (VRel ι) xs (([a] ++ lo.toList ++ hi.toList).map ρ)) (hx : iexec (.sl lo.isSome hi.isSome sz) xs bx H = some (x, bx', H')) : bx' = bx ∧ Left P (execOp ρ o) ι H w x H' := by
  simp only [iexec] at hx
  split at hx
  case isFalse => simp at hx
  cases lo with
  | none => cases hi with
    | none =>
      obtain ⟨v, rfl, h1⟩ := one_rel (by simpa using hv)
      obtain ⟨v', hE, gh1⟩ := val_of h1 (by rintro vs rfl; exact absurd (show (none : Res) = _ from hx) (by simp))
      subst hE; clear h1; have h1 := gh1; clear gh1; obtain ⟨v, rfl⟩ : ∃ z, z = v' := ⟨_, rfl⟩
      simp only [Option.isSome_none] at hx
      split at hx
      · rename_i hc
        obtain ⟨r, h3, h4⟩ := map_some_eq hx
        simp only [Prod.mk.injEq] at h4
        obtain ⟨rfl, rfl, rfl⟩ := h4
        exact ⟨rfl, hop_sl_ok hs (k := .i64) (k' := .i64) ho hu hz h1 rfl rfl hc h3⟩
      · simp at hx
    | some hh =>
      obtain ⟨v, u, rfl, h1, h2⟩ := two_rel (by simpa using hv)
      obtain ⟨v', hE, gh1⟩ := val_of h1 (by rintro vs rfl; exact absurd (show (none : Res) = _ from hx) (by simp))
      subst hE; clear h1; have h1 := gh1; clear gh1; obtain ⟨v, rfl⟩ : ∃ z, z = v' := ⟨_, rfl⟩
      obtain ⟨u', hE, gh2⟩ := val_of h2 (by rintro vs rfl; exact absurd (show (none : Res) = _ from hx) (by simp))
      subst hE; clear h2; have h2 := gh2; clear gh2; obtain ⟨u, rfl⟩ : ∃ z, z = u' := ⟨_, rfl⟩
      cases u <;> first
        | exact absurd (show (none : Res) = _ from hx) (by simp)
        | skip
      simp only [Option.isSome_none, Option.isSome_some] at hx
      split at hx
      · rename_i hc
        obtain ⟨r, h3, h4⟩ := map_some_eq hx
        simp only [Prod.mk.injEq] at h4
        obtain ⟨rfl, rfl, rfl⟩ := h4
        exact ⟨rfl, hop_sl_ok hs (k := .i64) ho hu hz h1 rfl (by simp only [Option.map_some, h2.int]; rfl) hc h3⟩
      · simp at hx
  | some l => cases hi with
    | none =>
      obtain ⟨v, u, rfl, h1, h2⟩ := two_rel (by simpa using hv)
      obtain ⟨v', hE, gh1⟩ := val_of h1 (by rintro vs rfl; exact absurd (show (none : Res) = _ from hx) (by simp))
      subst hE; clear h1; have h1 := gh1; clear gh1; obtain ⟨v, rfl⟩ : ∃ z, z = v' := ⟨_, rfl⟩
      obtain ⟨u', hE, gh2⟩ := val_of h2 (by rintro vs rfl; exact absurd (show (none : Res) = _ from hx) (by simp))
      subst hE; clear h2; have h2 := gh2; clear gh2; obtain ⟨u, rfl⟩ : ∃ z, z = u' := ⟨_, rfl⟩
      cases u <;> first
        | exact absurd (show (none : Res) = _ from hx) (by simp)
        | skip
      simp only [Option.isSome_none, Option.isSome_some] at hx
      split at hx
      · rename_i hc
        obtain ⟨r, h3, h4⟩ := map_some_eq hx
        simp only [Prod.mk.injEq] at h4
        obtain ⟨rfl, rfl, rfl⟩ := h4
        exact ⟨rfl, hop_sl_ok hs (k' := .i64) ho hu hz h1 (by simp only [Option.map_some, h2.int]; rfl) rfl hc h3⟩
      · simp at hx
    | some hh =>
      obtain ⟨v, u, t', rfl, h1, h2, h3⟩ := three_rel (by simpa using hv)
      obtain ⟨v', hE, gh1⟩ := val_of h1 (by rintro vs rfl; exact absurd (show (none : Res) = _ from hx) (by simp))
      subst hE; clear h1; have h1 := gh1; clear gh1; obtain ⟨v, rfl⟩ : ∃ z, z = v' := ⟨_, rfl⟩
      obtain ⟨u', hE, gh2⟩ := val_of h2 (by rintro vs rfl; exact absurd (show (none : Res) = _ from hx) (by simp))
      subst hE; clear h2; have h2 := gh2; clear gh2; obtain ⟨u, rfl⟩ : ∃ z, z = u' := ⟨_, rfl⟩
      cases u <;> first
        | exact absurd (show (none : Res) = _ from hx) (by simp)
        | skip
      obtain ⟨t'', hE, gh3⟩ := val_of h3 (by rintro vs rfl; exact absurd (show (none : Res) = _ from hx) (by simp))
      subst hE; clear h3; have h3 := gh3; clear gh3; obtain ⟨t', rfl⟩ : ∃ z, z = t'' := ⟨_, rfl⟩
      cases t' <;> first
        | exact absurd (show (none : Res) = _ from hx) (by simp)
        | skip
      simp only [Option.isSome_some] at hx
      split at hx
      · rename_i hc
        obtain ⟨r, h4, h5⟩ := map_some_eq hx
        simp only [Prod.mk.injEq] at h5
        obtain ⟨rfl, rfl, rfl⟩ := h5
        exact ⟨rfl, hop_sl_ok hs ho hu hz h1 (by simp only [Option.map_some, h2.int]; rfl) (by simp only [Option.map_some, h3.int]; rfl) hc h4⟩
      · simp at hx

theorem hop_ex (hs : Sim ι H w) {o : Oper} {y : Operand} {i : Nat} (ho : o.op = .extract y i) {xs : List EV} (hv : LRel (VRel ι) xs [ρ y])
    (hx : iexec (.ex i) xs bx H = some (x, bx', H')) : bx' = bx ∧ Left P (execOp ρ o) ι H w x H' := by
  obtain ⟨v, rfl, h1⟩ := one_rel hv
  rcases h1.elim with ⟨v, rfl, h⟩ | ⟨vs, ys, rfl, hy, h⟩
  · exact absurd (show (none : Res) = _ from hx) (by simp)
  · simp only [iexec] at hx
    split at hx
    · rename_i v hvv
      simp only [Option.some.injEq, Prod.mk.injEq] at hx
      obtain ⟨rfl, rfl, rfl⟩ := hx
      obtain ⟨u, hu, hr⟩ := h.get _ _ hvv
      refine ⟨rfl, Left.pure1 hs (y := u) ?_ hr⟩
      unfold execOp
      simp only [ho, hy]
      refine run_v ?_
      have hu' : ys[i]? = some u := by simpa using hu
      simp [Instr.extract, hu']
    · simp at hx

theorem hop_cvi (hs : Sim ι H w) {o : Oper} {s d : TypeId} {k k' : IntKind} {y : Operand} (ho : o.op = .convert s d y) (h1 : P.underlying s = some (.int k')) (h2 : P.underlying d = some (.int k)) {xs : List EV} (hv : LRel (VRel ι) xs [ρ y])
    (hx : iexec (.cvi k) xs bx H = some (x, bx', H')) : bx' = bx ∧ Left P (execOp ρ o) ι H w x H' := by
  obtain ⟨v, rfl, h3⟩ := one_rel hv
  obtain ⟨v', hE, gh3⟩ := val_of h3 (by rintro vs rfl; exact absurd (show (none : Res) = _ from hx) (by simp))
  subst hE; clear h3; have h3 := gh3; clear gh3; obtain ⟨v, rfl⟩ : ∃ z, z = v' := ⟨_, rfl⟩
  cases v <;> first
    | exact absurd (show (none : Res) = _ from hx) (by simp)
    | skip
  simp only [iexec, Option.some.injEq, Prod.mk.injEq] at hx
  obtain ⟨rfl, rfl, rfl⟩ := hx
  refine ⟨rfl, Left.pure1 hs (y := .int k _) ?_ (.ofInt _ _)⟩
  unfold execOp
  simp only [ho, h3.int]
  refine run_v ?_
  unfold convert
  simp only [Sem.run_bind, run_underlying h1, run_underlying h2, Result.andThen_ok]
  rfl

theorem modify_push {α : Type} (a : Array α) (x : α) (f : α → α) : (a.push x).modify a.size f = a.push (f x) := by
  apply Array.ext
  · simp
  · intro i h1 h2
    rw [Array.getElem_modify]
    simp only [Array.size_modify, Array.size_push] at h1
    by_cases hi : i < a.size
    · rw [if_neg (by omega), Array.getElem_push_lt hi, Array.getElem_push_lt hi]
    · have : i = a.size := by omega
      subst this
      simp

theorem freeze_alloc (w : World) (C : Array Value) (e : TypeId) (n : Nat) : (w.alloc (.cells C e)).freeze ⟨w.heap.size, n, none⟩ 1 = w.alloc (.cells C e (n, n + 1)) := by
  unfold World.freeze
  rw [if_neg (by omega)]
  have h := modify_push w.heap (.cells C e) fun
      | .cells c elem (lo, hi) => .cells c elem (if lo == hi then (n, n + 1) else (min lo n, max hi (n + 1)))
      | o => o
  show ({ heap := (w.heap.push (.cells C e)).modify w.heap.size _, tape := w.tape, drawn := w.drawn, os := w.os, output := w.output } : World) = { heap := w.heap.push (.cells C e (n, n + 1)), tape := w.tape, drawn := w.drawn, os := w.os, output := w.output }
  congr 1

theorem run_stringish {w : World} {C : Array Value} {e : TypeId} {n G : Nat} (hC : C.size = G) :
    (do let a ← newRow e C; markStringish a; Pure.pure (.slice (some a) n G) : Sem Value).run P w.drew = .ok (.slice (some ⟨w.heap.size, 0, none⟩) n G) (w.drew.alloc (.cells C e (G, G + 1))) := by
  have h1 : (newRow e C).run P w.drew = .ok ⟨w.heap.size, 0, none⟩ (w.drew.alloc (.cells C e)) := rfl
  have h2 : (w.drew.alloc (.cells C e)).shape? w.heap.size = some (e, C.size) := by
    unfold World.shape?
    rw [alloc_heap]
    have : (w.drew.heap.push (.cells C e))[w.heap.size]? = some (.cells C e) := by
      have e0 : w.drew.heap = w.heap := rfl
      rw [e0]; simp
    rw [this]
  unfold markStringish
  simp only [Sem.run_bind, h1, Result.andThen_ok, run_shape, h2, run_freeze, Sem.run_pure, hC]
  rw [← freeze_alloc]
  rfl

theorem hop_cvs (hs : Sim ι H w) {o : Oper} {s d e : TypeId} {y : Operand} (ho : o.op = .convert s d y) (h1 : P.underlying s = some .string) (h2 : P.underlying d = some (.slice e)) (h3 : P.underlying e = some (.int .u8)) {xs : List EV} (hv : LRel (VRel ι) xs [ρ y])
    (hx : iexec .cvs xs bx H = some (x, bx', H')) : bx' = bx ∧ Left P (execOp ρ o) ι H w x H' := by
  obtain ⟨v, rfl, h4⟩ := one_rel hv
  obtain ⟨v', hE, gh4⟩ := val_of h4 (by rintro vs rfl; exact absurd (show (none : Res) = _ from hx) (by simp))
  subst hE; clear h4; have h4 := gh4; clear gh4; obtain ⟨v, rfl⟩ : ∃ z, z = v' := ⟨_, rfl⟩
  cases v <;> first
    | exact absurd (show (none : Res) = _ from hx) (by simp)
    | skip
  rename_i str
  simp only [iexec, Option.some.injEq, Prod.mk.injEq] at hx
  obtain ⟨rfl, rfl, rfl⟩ := hx
  have hcap : str.size ≤ grownCap w str.size 0 e := grownCap_ge w _ _ _
  generalize hG : grownCap w str.size 0 e = G at hcap
  have hG' : (Question.appendCap str.size 0 e).cut (w.tape w.drawn (.appendCap str.size 0 e)) = G := hG
  have hlen : str.data.toList.length = str.size := by simp
  have hc : LRel (CRel ι) (str.data.toList.map fun b => Value.int .u8 b.toNat) (str.data.toList.map fun b => Value.int .u8 b.toNat) := by
    generalize str.data.toList = l
    induction l with
    | nil => exact .nil
    | cons b l ih => exact .cons (.int _ _) ih
  have hCs : ((str.data.map fun b => Value.int .u8 b.toNat) ++ Array.replicate (G - str.size) (Value.int .u8 0)).size = G := by
    have : str.data.size = str.size := rfl
    simp [this]; omega
  have hsim := hs.drew.new (cs := str.data.toList.map fun b => Value.int .u8 b.toNat) (sz := 1) (rw_ := false) (C := (str.data.map fun b => Value.int .u8 b.toNat) ++ Array.replicate (G - str.size) (Value.int .u8 0)) (e := e) (fz := (G, G + 1)) (by simp)
    (fun j c hj => by
      obtain ⟨q, h5, h6⟩ := hc.get j c hj
      refine ⟨q, ?_, h6⟩
      have hj2 : j < str.size := by have := (List.getElem?_eq_some_iff.1 h5).1; simp at this; exact this
      rw [Array.getElem?_append_left (by simpa using hj2)]
      simpa using h5) (by rw [hCs]; simp; exact hcap) (fun h => by simp at h)
  refine ⟨rfl, Left.new (y := .slice (some ⟨w.heap.size, 0, none⟩) str.size G) ?_ ?_ hsim ((Ext.drew hs).trans (Ext.alloc hs.drew _ _ (Nat.le_refl _) _)) (by simp)⟩
  · unfold execOp
    simp only [ho, h4.str]
    refine run_v ?_
    unfold convert
    simp only [Sem.run_bind, run_underlying h1, run_underlying h2, Result.andThen_ok, run_underlying h3]
    unfold Conv.stringToBytes
    simp only [Sem.run_bind, run_choose, Question.forced, Bool.false_eq_true, if_false, Result.andThen_ok, hG']
    have := run_stringish (P := P) (w := w) (n := str.size) hCs (e := e)
    simp only [Sem.run_bind] at this
    exact this
  · refine CRel.sl (L := ⟨w.heap.size, 0, _, 1⟩) (by unfold updI; rw [if_pos rfl]; rfl) (Nat.le_refl _) hcap (.inr rfl) ?_
    simp only [hCs]; omega

theorem hop_mf (hs : Sim ι H w) {o : Oper} {f : Nat} {captured : Array Operand} (ho : o.op = .makeFunc (.func f) #[] captured) {xs : List EV} (hv : LRel (VRel ι) xs (captured.toList.map ρ))
    (hx : iexec (.mf f) xs bx H = some (x, bx', H')) : bx' = bx ∧ Left P (execOp ρ o) ι H w x H' := by
  simp only [iexec] at hx
  split at hx
  · rename_i vs hvs
    split at hx
    case isFalse => simp at hx
    rename_i hp
    simp only [Option.some.injEq, Prod.mk.injEq] at hx
    obtain ⟨rfl, rfl, rfl⟩ := hx
    have h1 := allV_rel hv hvs
    have h2 : LRel (PRel ι) vs (captured.toList.map ρ) := by
      clear hvs hv
      generalize captured.toList.map ρ = ys at h1
      induction h1 with
      | nil => exact .nil
      | @cons x y xs ys h _ ih =>
        simp only [List.all_cons, Bool.and_eq_true] at hp
        have h3 := hp.1
        have h4 := ih hp.2
        cases x with
        | pointer a => exact .cons h.ptr h4
        | _ => exact absurd h3 Bool.false_ne_true
    refine ⟨rfl, Left.pure1 hs (y := .func (.func f) #[] (captured.map ρ)) ?_ ?_⟩
    · unfold execOp
      simp only [ho]
      refine run_v ?_
      simp [Instr.makeFunc]
    · have := CRel.fn (f := f) h2
      have e : (captured.toList.map ρ).toArray = captured.map ρ := by apply Array.ext'; rw [Array.toList_map]
      rw [e] at this
      exact .cell this
  · simp at hx

end
end Go.Proofs.Ytpnbojehfngigaa.IM

/- The ideal machine: builtin functions; and every operation that is no call of a function, in one. -/
namespace Go.Proofs.Ytpnbojehfngigaa.IM
open Go
set_option linter.unusedVariables false
set_option linter.unusedSimpArgs false

section
variable {P : Program} {C : Cfg} {ι : Inj} {H H' : Heap} {w : World} {ρ : Operand → Value} {bx bx' : List (List Value)} {x : Option EV}

theorem run_builtin {o : Oper} {c : Call} {b : Builtin} (ho : o.op = .call c) (hb : c.callee = .builtin b) (w : World) :
    (execOp ρ o).run P w = (builtin b c.argTypes o.type (c.args.map fun | .const _ => true | _ => false) (c.args.map ρ)).run P w := by
  unfold execOp
  simp only [ho, resolve, hb, Sem.run_bind, Sem.run_pure, Result.andThen_ok, invoke]
  rfl

theorem args_one {c : Call} (h : (c.args.size == 1) = true) : ∃ a, c.args.toList = [a] ∧ c.args.map ρ = #[ρ a] := by
  have h1 : c.args.toList.length = 1 := by simpa using h
  match hq : c.args.toList, h1 with
  | [a], _ =>
    refine ⟨a, rfl, ?_⟩
    apply Array.ext'
    rw [Array.toList_map, hq]; rfl

theorem args_two {c : Call} (h : (c.args.size == 2) = true) : ∃ a b, c.args.toList = [a, b] ∧ c.args.map ρ = #[ρ a, ρ b] := by
  have h1 : c.args.toList.length = 2 := by simpa using h
  match hq : c.args.toList, h1 with
  | [a, b], _ =>
    refine ⟨a, b, rfl, ?_⟩
    apply Array.ext'
    rw [Array.toList_map, hq]; rfl

theorem hop_len (hs : Sim ι H w) {o : Oper} {c : Call} (ho : o.op = .call c) (hb : c.callee = .builtin .len) (hn : (c.args.size == 1) = true) {e : TypeId} (hd : (c.argTypes[0]?).bind P.underlying = some (.slice e))
    {xs : List EV} (hv : LRel (VRel ι) xs (c.args.toList.map ρ)) (hx : iexec .len xs bx H = some (x, bx', H')) : bx' = bx ∧ Left P (execOp ρ o) ι H w x H' := by
  obtain ⟨a, ha, hm⟩ := args_one (ρ := ρ) hn
  rw [ha] at hv
  obtain ⟨v, rfl, h1⟩ := one_rel (y := ρ a) (by simpa using hv)
  obtain ⟨v', hE, gh1⟩ := val_of h1 (by rintro vs rfl; exact absurd (show (none : Res) = _ from hx) (by simp))
  subst hE; clear h1; have h1 := gh1; clear gh1; obtain ⟨v, rfl⟩ : ∃ z, z = v' := ⟨_, rfl⟩
  obtain ⟨t, ht, hu⟩ : ∃ t, c.argTypes[0]? = some t ∧ P.underlying t = some (.slice e) := by
    cases hq : c.argTypes[0]? with
    | none => rw [hq] at hd; simp at hd
    | some t => rw [hq] at hd; exact ⟨t, rfl, by simpa using hd⟩
  simp only [iexec] at hx
  obtain ⟨r, h2, h3⟩ := map_some_eq hx
  simp only [Prod.mk.injEq] at h3
  obtain ⟨rfl, rfl, rfl⟩ := h3
  unfold lenV at h2
  split at h2
  · rename_i a' n c'
    simp only [Option.some.injEq] at h2; subst h2
    obtain ⟨a2, c2, hq⟩ : ∃ a2 c2, ρ a = .slice a2 n c2 := by
      have := h1.slc
      generalize ρ a = q at this
      cases this with
      | snil => exact ⟨_, _, rfl⟩
      | sl => exact ⟨_, _, rfl⟩
      | ptr h => cases h
    refine ⟨rfl, Left.pure1 hs (y := .int .i64 n) ?_ (.ofInt _ _)⟩
    rw [run_builtin ho hb, hm]
    refine run_v ?_
    unfold Builtin.len_
    simp [ht, run_underlying hu, hq, goInt]
  · simp at h2

theorem hop_cap (hs : Sim ι H w) {o : Oper} {c : Call} (ho : o.op = .call c) (hb : c.callee = .builtin .cap) (hn : (c.args.size == 1) = true) {e : TypeId} (hd : (c.argTypes[0]?).bind P.underlying = some (.slice e))
    {xs : List EV} (hv : LRel (VRel ι) xs (c.args.toList.map ρ)) (hx : iexec .cap xs bx H = some (x, bx', H')) : bx' = bx ∧ Left P (execOp ρ o) ι H w x H' := by
  obtain ⟨a, ha, hm⟩ := args_one (ρ := ρ) hn
  rw [ha] at hv
  obtain ⟨v, rfl, h1⟩ := one_rel (y := ρ a) (by simpa using hv)
  obtain ⟨v', hE, gh1⟩ := val_of h1 (by rintro vs rfl; exact absurd (show (none : Res) = _ from hx) (by simp))
  subst hE; clear h1; have h1 := gh1; clear gh1; obtain ⟨v, rfl⟩ : ∃ z, z = v' := ⟨_, rfl⟩
  obtain ⟨t, ht, hu⟩ : ∃ t, c.argTypes[0]? = some t ∧ P.underlying t = some (.slice e) := by
    cases hq : c.argTypes[0]? with
    | none => rw [hq] at hd; simp at hd
    | some t => rw [hq] at hd; exact ⟨t, rfl, by simpa using hd⟩
  have hv0 : v = .slice none 0 0 ∧ x = some (.val (.int .i64 0)) ∧ bx' = bx ∧ H' = H := by
    cases v <;> first
      | exact absurd (show (none : Res) = _ from hx) (by simp)
      | skip
    rename_i a' n c'
    cases a' with
    | some a' => exact absurd (show (none : Res) = _ from hx) (by simp)
    | none => cases n with
      | succ n => exact absurd (show (none : Res) = _ from hx) (by simp)
      | zero => cases c' with
        | succ n => exact absurd (show (none : Res) = _ from hx) (by simp)
        | zero =>
          simp only [iexec, Option.some.injEq, Prod.mk.injEq] at hx
          exact ⟨rfl, hx.1.symm, hx.2.1.symm, hx.2.2.symm⟩
  obtain ⟨rfl, rfl, rfl, rfl⟩ := hv0
  refine ⟨rfl, Left.pure1 hs (y := .int .i64 0) ?_ (.ofInt _ _)⟩
  rw [run_builtin ho hb, hm, nil_rel h1]
  refine run_v ?_
  unfold Builtin.cap_
  simp [ht, run_underlying hu, goInt]

theorem hop_min (hs : Sim ι H w) {o : Oper} {c : Call} (ho : o.op = .call c) (hb : c.callee = .builtin .min) (hn : (c.args.size == 2) = true)
    {xs : List EV} (hv : LRel (VRel ι) xs (c.args.toList.map ρ)) (hx : iexec .min xs bx H = some (x, bx', H')) : bx' = bx ∧ Left P (execOp ρ o) ι H w x H' := by
  obtain ⟨a, b, ha, hm⟩ := args_two (ρ := ρ) hn
  rw [ha] at hv
  obtain ⟨v, u, rfl, h1, h2⟩ := two_rel (y := ρ a) (z := ρ b) (by simpa using hv)
  obtain ⟨v', hE, gh1⟩ := val_of h1 (by rintro vs rfl; exact absurd (show (none : Res) = _ from hx) (by simp))
  subst hE; clear h1; have h1 := gh1; clear gh1; obtain ⟨v, rfl⟩ : ∃ z, z = v' := ⟨_, rfl⟩
  cases v <;> first
    | exact absurd (show (none : Res) = _ from hx) (by simp)
    | skip
  rename_i k n
  cases k <;> first
    | exact absurd (show (none : Res) = _ from hx) (by simp)
    | skip
  obtain ⟨u', hE, gh2⟩ := val_of h2 (by rintro vs rfl; exact absurd (show (none : Res) = _ from hx) (by simp))
  subst hE; clear h2; have h2 := gh2; clear gh2; obtain ⟨u, rfl⟩ : ∃ z, z = u' := ⟨_, rfl⟩
  cases u <;> first
    | exact absurd (show (none : Res) = _ from hx) (by simp)
    | skip
  rename_i k m
  cases k <;> first
    | exact absurd (show (none : Res) = _ from hx) (by simp)
    | skip
  simp only [iexec, Option.some.injEq, Prod.mk.injEq] at hx
  obtain ⟨rfl, rfl, rfl⟩ := hx
  refine ⟨rfl, Left.pure1 hs (y := .int .i64 (if m < n then m else n)) ?_ (.ofInt _ _)⟩
  rw [run_builtin ho hb, hm, h1.int, h2.int]
  refine run_v ?_
  simp [Builtin.min_, Builtin.min2]

theorem hop_max (hs : Sim ι H w) {o : Oper} {c : Call} (ho : o.op = .call c) (hb : c.callee = .builtin .max) (hn : (c.args.size == 2) = true)
    {xs : List EV} (hv : LRel (VRel ι) xs (c.args.toList.map ρ)) (hx : iexec .max xs bx H = some (x, bx', H')) : bx' = bx ∧ Left P (execOp ρ o) ι H w x H' := by
  obtain ⟨a, b, ha, hm⟩ := args_two (ρ := ρ) hn
  rw [ha] at hv
  obtain ⟨v, u, rfl, h1, h2⟩ := two_rel (y := ρ a) (z := ρ b) (by simpa using hv)
  obtain ⟨v', hE, gh1⟩ := val_of h1 (by rintro vs rfl; exact absurd (show (none : Res) = _ from hx) (by simp))
  subst hE; clear h1; have h1 := gh1; clear gh1; obtain ⟨v, rfl⟩ : ∃ z, z = v' := ⟨_, rfl⟩
  cases v <;> first
    | exact absurd (show (none : Res) = _ from hx) (by simp)
    | skip
  rename_i k n
  cases k <;> first
    | exact absurd (show (none : Res) = _ from hx) (by simp)
    | skip
  obtain ⟨u', hE, gh2⟩ := val_of h2 (by rintro vs rfl; exact absurd (show (none : Res) = _ from hx) (by simp))
  subst hE; clear h2; have h2 := gh2; clear gh2; obtain ⟨u, rfl⟩ : ∃ z, z = u' := ⟨_, rfl⟩
  cases u <;> first
    | exact absurd (show (none : Res) = _ from hx) (by simp)
    | skip
  rename_i k m
  cases k <;> first
    | exact absurd (show (none : Res) = _ from hx) (by simp)
    | skip
  simp only [iexec, Option.some.injEq, Prod.mk.injEq] at hx
  obtain ⟨rfl, rfl, rfl⟩ := hx
  refine ⟨rfl, Left.pure1 hs (y := .int .i64 (if n < m then m else n)) ?_ (.ofInt _ _)⟩
  rw [run_builtin ho hb, hm, h1.int, h2.int]
  refine run_v ?_
  simp [Builtin.max_, Builtin.max2]

theorem argTypes_two {c : Call} {t u : TypeId} (h : c.argTypes.toList = [t, u]) : c.argTypes = #[t, u] := by
  apply Array.ext'; rw [h]

theorem app_slice {s : Value} {sz bytes k : Nat} {new : List Value} {r : Value × Heap} (h : H.app s sz bytes k new = some r) : ∃ a n c, s = .slice a n c := by
  unfold Heap.app at h
  split at h
  · split at h
    · exact ⟨_, _, _, rfl⟩
    · simp at h
  · split at h
    · simp at h
    · split at h
      · exact ⟨_, _, _, rfl⟩
      · exact ⟨_, _, _, rfl⟩
      · simp at h

theorem hop_app (hs : Sim ι H w) {o : Oper} {c : Call} (ho : o.op = .call c) (hb : c.callee = .builtin .append) (hn : (c.args.size == 2) = true) {t u e e' : TypeId} {sz b : Nat} {z : List Value}
    (ht : c.argTypes.toList = [t, u]) (he : elem? P t = some e) (hsz : size? P e = some sz) (hby : bytes? P e = some b) (hz : zero? P e = some z) (hu : P.underlying u = some (.slice e'))
    {xs : List EV} (hv : LRel (VRel ι) xs (c.args.toList.map ρ)) (hx : iexec (.app sz b) xs bx H = some (x, bx', H')) : bx' = bx ∧ Left P (execOp ρ o) ι H w x H' := by
  obtain ⟨a, b', ha, hm⟩ := args_two (ρ := ρ) hn
  rw [ha] at hv
  obtain ⟨v, u', rfl, h1, h2⟩ := two_rel (y := ρ a) (z := ρ b') (by simpa using hv)
  obtain ⟨v', hE, gh1⟩ := val_of h1 (by rintro vs rfl; exact absurd (show (none : Res) = _ from hx) (by simp))
  subst hE; clear h1; have h1 := gh1; clear gh1; obtain ⟨v, rfl⟩ : ∃ z, z = v' := ⟨_, rfl⟩
  obtain ⟨u'', hE, gh2⟩ := val_of h2 (by rintro vs rfl; exact absurd (show (none : Res) = _ from hx) (by simp))
  subst hE; clear h2; have h2 := gh2; clear gh2; obtain ⟨u', rfl⟩ : ∃ z, z = u'' := ⟨_, rfl⟩
  obtain ⟨i, zv, hi, hzv, hze, hpl, hzl⟩ := zero_spec P hz
  have hisz : i.size = sz := by unfold size? at hsz; rw [hi] at hsz; simpa using hsz
  have hib : i.bytes = b := by unfold bytes? at hby; rw [hi] at hby; simpa using hby
  subst hisz; subst hib
  have hzs : zv.cells.size = i.size := by rw [← hzl, ← hze]; simp
  simp only [iexec] at hx
  split at hx
  · rename_i new hnew
    obtain ⟨r, h3, h4⟩ := map_some_eq hx
    simp only [Prod.mk.injEq] at h4
    obtain ⟨rfl, rfl, rfl⟩ := h4
    obtain ⟨sa, sn, sc, rfl⟩ := app_slice h3
    obtain ⟨ua, un, uc, rfl⟩ : ∃ a n c, u' = .slice a n c := by
      unfold Heap.cellsOf at hnew
      split at hnew
      · exact ⟨_, _, _, rfl⟩
      · exact ⟨_, _, _, rfl⟩
      · simp at hnew
    obtain ⟨ys, hsrc, hrel⟩ : ∃ ys, Src P i.size u (ρ b') (lenS (.slice ua un uc)) ys w ∧ LRel (CRel ι) new ys := by
      rcases hs.cellsOf h2.slc hnew with ⟨h5, h6, rfl⟩ | ⟨a2, n2, c2, ys, h5, h6, h7, h8, h9⟩
      · rw [h6, h5]
        exact ⟨[], Src.ofNil w hu 0, .nil⟩
      · rw [h5, h6]
        exact ⟨ys, Src.ofSlice w hu a2 n2 c2 ys (by rw [← h8.len]; exact h7) h9 h8.one, h8⟩
    obtain ⟨y', w', hrun, ι', h5, h6, h7, h8⟩ := hs.app (ty := o.type) (elem_spec P he) hi hzv hzs h1.slc hsrc hrel h3
    refine ⟨rfl, Left.new ?_ h5 h6 h7 h8⟩
    rw [run_builtin ho hb, hm, argTypes_two ht]
    exact run_v hrun
  · simp at hx

end
end Go.Proofs.Ytpnbojehfngigaa.IM

/- The ideal machine: append of made elements; every operation that is no call of a function, in one. -/
namespace Go.Proofs.Ytpnbojehfngigaa.IM
open Go
set_option linter.unusedVariables false
set_option linter.unusedSimpArgs false

section
variable {P : Program} {C : Cfg} {ι : Inj} {H H' : Heap} {w : World} {ρ : Operand → Value} {bx bx' : List (List Value)} {x : Option EV}

theorem hop_appz (hs : Sim ι H w) {o : Oper} {c : Call} (ho : o.op = .call c) (hb : c.callee = .builtin .append) (hn : (c.args.size == 2) = true) {t u e : TypeId} {k' : IntKind} {b : Nat} {z : List Value}
    (ht : c.argTypes.toList = [t, u]) (he : elem? P t = some e) (hby : bytes? P e = some b) (hz : zero? P e = some z) (hu : P.underlying u = some (.int k'))
    {xs : List EV} (hv : LRel (VRel ι) xs (c.args.toList.map ρ)) (hx : iexec (.appz z b) xs bx H = some (x, bx', H')) : bx' = bx ∧ Left P (execOp ρ o) ι H w x H' := by
  obtain ⟨a, b', ha, hm⟩ := args_two (ρ := ρ) hn
  rw [ha] at hv
  obtain ⟨v, u', rfl, h1, h2⟩ := two_rel (y := ρ a) (z := ρ b') (by simpa using hv)
  obtain ⟨v', hE, gh1⟩ := val_of h1 (by rintro vs rfl; exact absurd (show (none : Res) = _ from hx) (by simp))
  subst hE; clear h1; have h1 := gh1; clear gh1; obtain ⟨v, rfl⟩ : ∃ z, z = v' := ⟨_, rfl⟩
  cases v <;> first
    | exact absurd (show (none : Res) = _ from hx) (by simp)
    | skip
  rename_i a' n c'
  cases a' with
  | some a' => exact absurd (show (none : Res) = _ from hx) (by simp)
  | none => cases n with
    | succ n => exact absurd (show (none : Res) = _ from hx) (by simp)
    | zero => cases c' with
      | succ n => exact absurd (show (none : Res) = _ from hx) (by simp)
      | zero =>
        obtain ⟨u'', hE, gh2⟩ := val_of h2 (by rintro vs rfl; exact absurd (show (none : Res) = _ from hx) (by simp))
        subst hE; clear h2; have h2 := gh2; clear gh2; obtain ⟨u', rfl⟩ : ∃ z, z = u'' := ⟨_, rfl⟩
        cases u' <;> first
          | exact absurd (show (none : Res) = _ from hx) (by simp)
          | skip
        rename_i kk m
        cases kk <;> first
          | exact absurd (show (none : Res) = _ from hx) (by simp)
          | skip
        simp only [iexec] at hx
        split at hx
        case isFalse => simp at hx
        rename_i hc
        obtain ⟨c1, c2, c3⟩ := hc
        simp only [Option.some.injEq, Prod.mk.injEq] at hx
        obtain ⟨rfl, rfl, rfl⟩ := hx
        obtain ⟨i, zv, hi, hzv, hze, hpl, hzl⟩ := zero_spec P hz
        have hib : i.bytes = b := by unfold bytes? at hby; rw [hi] at hby; simpa using hby
        subst hib
        have hzs : zv.cells.size = i.size := by rw [← hzl, ← hze]; simp
        obtain ⟨N, rfl⟩ := Int.eq_ofNat_of_zero_le (Int.le_of_lt c1)
        simp only [Int.toNat_natCast]
        have hcap := grownCap_ge w N 0 e
        generalize hG : grownCap w N 0 e = G at hcap
        have hG' : (Question.appendCap N 0 e).cut (w.tape w.drawn (.appendCap N 0 e)) = G := hG
        have hnext : Builtin.nextslicecap N 0 = N := nextslicecap_zero (by omega)
        have hfit : ((Builtin.nextslicecap N 0 * i.bytes : Nat) : Int) ≤ 2 ^ 48 := by
          rw [hnext]
          have : N * i.bytes ≤ 2 ^ 38 * 256 := Nat.mul_le_mul (by omega) c3
          omega
        have hzero : LRel (CRel ι) (reps N z) (Builtin.zeroCells zv.cells N).toList := by
          have := reps_rel (ι := ι) (z := zv.cells) (by rw [hze]; exact hpl) N (N * zv.cells.size) rfl
          rw [hze] at this
          exact this
        have hCs : (Builtin.zeroCells zv.cells N ++ Builtin.zeroCells zv.cells (G - N)).size = G * z.length := by
          simp only [Array.size_append, zeroCells_size, hzs, hzl, ← Nat.add_mul]; congr 1; omega
        have hsim := hs.drew.new (cs := reps N z) (sz := z.length) (rw_ := true) (C := Builtin.zeroCells zv.cells N ++ Builtin.zeroCells zv.cells (G - N)) (e := e) (fz := (0, 0)) (fun _ => rfl)
          (fun j c hj => by
            obtain ⟨q, h5, h6⟩ := hzero.get j c hj
            refine ⟨q, ?_, h6⟩
            rw [Array.getElem?_append_left (by simpa using (List.getElem?_eq_some_iff.1 h5).1)]
            simpa using h5) (by rw [hCs, reps_length]; exact Nat.mul_le_mul_right _ hcap) (fun _ h => by
              have h6 := congrArg List.length h
              rw [reps_length] at h6
              simp only [List.length_nil, Nat.mul_eq_zero] at h6
              rw [hCs, h6.resolve_left (by omega), Nat.mul_zero])
        refine ⟨trivial, Left.new (y := .slice (some ⟨w.heap.size, 0, none⟩) N G) ?_ ?_ hsim ((Ext.drew hs).trans (Ext.alloc hs.drew _ _ (Nat.le_refl _) _)) (by simp)⟩
        · rw [run_builtin ho hb, hm, argTypes_two ht, nil_rel h1, h2.int]
          refine run_v ?_
          have hti : ∀ w : World, (typeInfo e).run P w = .ok i w := fun w => by simp [typeInfo, hi]
          have wn : IntKind.wrap .i64 (N : Int) = N := by unfold IntKind.wrap IntKind.signed IntKind.bits; simp; omega
          have hfit2 : ¬ ((N : Int) * i.bytes > 2 ^ 48) := by
            rw [hnext] at hfit; push_cast at hfit; omega
          have hN : ¬ N = 0 := by omega
          have hneg : ¬ ((N : Int) < 0) := by omega
          have hfit4 : ¬ (281474976710656 < (N : Int) * i.bytes) := by omega
          have hmax : ¬ (9223372036854775807 < (N : Int)) := by omega
          have hfit3 : ¬ (281474976710656 < Builtin.nextslicecap N 0 * i.bytes) := by omega
          by_cases hz0 : N * i.size = 0
          · have hisz : i.size = 0 := by
              rcases Nat.mul_eq_zero.1 hz0 with h | h
              · omega
              · exact h
            have hze0 : zv.cells.size = 0 := by rw [hzs, hisz]
            have hzc : Builtin.zeroCells zv.cells N = #[] := by unfold Builtin.zeroCells; rw [hze0]; simp
            simp [Builtin.append_, run_underlying (elem_spec P he), run_underlying hu, run_sizeOf P hi, hti, asInt, asIntOf, wn, hneg, hfit4, hN, hmax, hfit2, hfit3, Question.forced, hG', hisz, Builtin.firstCells, hzc, newRow, run_zeroValue P hi hzv]
          · simp [Builtin.append_, run_underlying (elem_spec P he), run_underlying hu, run_sizeOf P hi, hti, asInt, asIntOf, wn, hneg, hfit4, hN, hmax, hfit2, hfit3, Question.forced, hG', hz0, Builtin.firstCells, newRow, run_zeroValue P hi hzv]
        · refine CRel.sl (L := ⟨w.heap.size, 0, _, z.length⟩) (by unfold updI; rw [if_pos rfl]; rfl) (Nat.le_refl _) hcap (.inr rfl) ?_
          simp only [hCs, Nat.zero_add]; exact Nat.le_refl _

end
end Go.Proofs.Ytpnbojehfngigaa.IM

/- The ideal machine: every operation that is no call of a function and touches no box, in one theorem. -/
namespace Go.Proofs.Ytpnbojehfngigaa.IM
open Go
set_option linter.unusedVariables false
set_option linter.unusedSimpArgs false

/-- What is asked of an operation that touches no box. -/
def Good (P : Program) (o : Oper) (k : IK) : Prop :=
  ∀ (ι : Inj) (H H' : Heap) (w : World) (ρ : Operand → Value) (bx bx' : List (List Value)) (x : Option EV) (xs : List EV), Sim ι H w → LRel (VRel ι) xs ((opl o.op).map ρ) →
    iexec k xs bx H = some (x, bx', H') → (∀ t z, k ≠ .abx t z) → (∀ t n, k ≠ .bbx t n) → bx' = bx ∧ Left P (execOp ρ o) ι H w x H'

theorem good_call {P : Program} {o : Oper} {k : IK} (h : ∀ xs bx H, iexec k xs bx H = none) : Good P o k := by
  intro ι H H' w ρ bx bx' x xs hs hv hx
  rw [h] at hx; simp at hx

theorem cArgs2 {C : Cfg} {l : List Operand} {k k' : IK} {args : List IOpd} (h : cArgs C l k = some (k', args)) : k' = k ∧ cOpds C l = some args := cArgs_eq h

set_option maxHeartbeats 1000000 in
theorem cCall_ok {P : Program} {C : Cfg} {o : Oper} {c : Call} {k : IK} {args : List IOpd} (ho : o.op = .call c) (h : cCall P C c = some (k, args)) : cOpds C (opl o.op) = some args ∧ Good P o k := by
  have hopl : ∀ b, c.callee = .builtin b → opl o.op = c.args.toList := fun b hb => by rw [ho]; simp [opl, hb]
  unfold cCall at h
  split at h
  · rename_i f hf
    split at h
    · rename_i fn hfn
      split at h
      · obtain ⟨rfl, h1⟩ := cArgs2 h
        exact ⟨by rw [ho]; simpa [opl, hf] using h1, good_call (fun _ _ _ => rfl)⟩
      · simp at h
    · simp at h
  · rename_i t hf
    obtain ⟨rfl, h1⟩ := cArgs2 h
    exact ⟨by rw [ho]; simpa [opl, hf] using h1, good_call (fun _ _ _ => rfl)⟩
  · rename_i hb
    split at h
    case isFalse => simp at h
    rename_i hn
    split at h
    · rename_i e hd
      obtain ⟨rfl, h1⟩ := cArgs2 h
      refine ⟨by rw [hopl _ hb]; exact h1, fun ι H H' w ρ bx bx' x xs hs hv hx _ _ => ?_⟩
      rw [hopl _ hb] at hv
      exact hop_len hs ho hb hn hd hv hx
    · simp at h
  · rename_i hb
    split at h
    case isFalse => simp at h
    rename_i hn
    split at h
    · rename_i e hd
      obtain ⟨rfl, h1⟩ := cArgs2 h
      refine ⟨by rw [hopl _ hb]; exact h1, fun ι H H' w ρ bx bx' x xs hs hv hx _ _ => ?_⟩
      rw [hopl _ hb] at hv
      exact hop_cap hs ho hb hn hd hv hx
    · simp at h
  · rename_i hb
    split at h
    case isFalse => simp at h
    rename_i hn
    obtain ⟨rfl, h1⟩ := cArgs2 h
    refine ⟨by rw [hopl _ hb]; exact h1, fun ι H H' w ρ bx bx' x xs hs hv hx _ _ => ?_⟩
    rw [hopl _ hb] at hv
    exact hop_min hs ho hb hn hv hx
  · rename_i hb
    split at h
    case isFalse => simp at h
    rename_i hn
    obtain ⟨rfl, h1⟩ := cArgs2 h
    refine ⟨by rw [hopl _ hb]; exact h1, fun ι H H' w ρ bx bx' x xs hs hv hx _ _ => ?_⟩
    rw [hopl _ hb] at hv
    exact hop_max hs ho hb hn hv hx
  · rename_i hb
    split at h
    case isFalse => simp at h
    rename_i hn
    split at h
    · rename_i t u ht
      split at h
      · rename_i e he
        split at h
        · rename_i s b z e' hsz hby hz hu
          split at h
          case isFalse => simp at h
          obtain ⟨rfl, h1⟩ := cArgs2 h
          refine ⟨by rw [hopl _ hb]; exact h1, fun ι H H' w ρ bx bx' x xs hs hv hx _ _ => ?_⟩
          rw [hopl _ hb] at hv
          exact hop_app hs ho hb hn ht he hsz hby hz hu hv hx
        · rename_i s b z k' hsz hby hz hu
          split at h
          case isFalse => simp at h
          obtain ⟨rfl, h1⟩ := cArgs2 h
          refine ⟨by rw [hopl _ hb]; exact h1, fun ι H H' w ρ bx bx' x xs hs hv hx _ _ => ?_⟩
          rw [hopl _ hb] at hv
          exact hop_appz hs ho hb hn ht he hby hz hu hv hx
        · simp at h
      · simp at h
    · simp at h
  · simp at h

set_option maxHeartbeats 1000000 in
theorem cOp_ok {P : Program} {C : Cfg} {o : Oper} {k : IK} {args : List IOpd} (h : cOp P C o = some (k, args)) : cOpds C (opl o.op) = some args ∧ Good P o k := by
  unfold cOp at h
  split at h
  · rename_i y ho
    obtain ⟨rfl, h1⟩ := cArgs2 h
    exact ⟨by rw [ho]; exact h1, fun ι H H' w ρ bx bx' x xs hs hv hx _ _ => hop_mv hs (.inl ho) (by rw [ho] at hv; exact hv) hx⟩
  · rename_i y ho
    obtain ⟨rfl, h1⟩ := cArgs2 h
    exact ⟨by rw [ho]; exact h1, fun ι H H' w ρ bx bx' x xs hs hv hx _ _ => hop_mv hs (.inr ho) (by rw [ho] at hv; exact hv) hx⟩
  · rename_i c a b ho
    obtain ⟨rfl, h1⟩ := cArgs2 h
    exact ⟨by rw [ho]; exact h1, fun ι H H' w ρ bx bx' x xs hs hv hx _ _ => hop_pick hs ho (by rw [ho] at hv; exact hv) hx⟩
  · rename_i t ho
    split at h
    · rename_i z hz
      split at h
      · rename_i d hd
        split at h
        · split at h
          · simp only [Option.some.injEq, Prod.mk.injEq] at h
            obtain ⟨rfl, rfl⟩ := h
            exact ⟨by rw [ho]; rfl, fun ι H H' w ρ bx bx' x xs hs hv hx h1 _ => absurd rfl (h1 _ _)⟩
          · simp at h
        · simp only [Option.some.injEq, Prod.mk.injEq] at h
          obtain ⟨rfl, rfl⟩ := h
          refine ⟨by rw [ho]; rfl, fun ι H H' w ρ bx bx' x xs hs hv hx h1 _ => ?_⟩
          rw [ho] at hv
          cases hv
          exact hop_ah hs ho hz hx
      · simp at h
    · simp at h
  · rename_i t y ho
    split at h
    · rename_i n hn
      split at h
      · rename_i d hd
        split at h
        · split at h
          · obtain ⟨rfl, h1⟩ := cArgs2 h
            exact ⟨by rw [ho]; exact h1, fun ι H H' w ρ bx bx' x xs hs hv hx _ h2 => absurd rfl (h2 _ _)⟩
          · simp at h
        · obtain ⟨rfl, h1⟩ := cArgs2 h
          exact ⟨by rw [ho]; exact h1, fun ι H H' w ρ bx bx' x xs hs hv hx _ _ => hop_bh hs ho (by rw [ho] at hv; exact hv) hx⟩
      · simp at h
    · simp at h
  · rename_i t parts ho
    split at h
    · rename_i z fs hz hu
      split at h
      · rename_i ps hp
        split at h
        · rename_i qs hq
          obtain ⟨rfl, h1⟩ := cArgs2 h
          exact ⟨by rw [ho]; exact h1, fun ι H H' w ρ bx bx' x xs hs hv hx _ _ => hop_bd hs ho hz hu hp hq (by rw [ho] at hv; exact hv) hx⟩
        · simp at h
      · simp at h
    · simp at h
  · rename_i t len parts ho
    split at h
    · rename_i e he
      split at h
      · rename_i z hz
        split at h
        · rename_i hpos
          obtain ⟨rfl, h1⟩ := cArgs2 h
          exact ⟨by rw [ho]; exact h1, fun ι H H' w ρ bx bx' x xs hs hv hx _ _ => hop_bs hs ho he hz hpos (by rw [ho] at hv; exact hv) hx⟩
        · simp at h
      · simp at h
    · simp at h
  · rename_i t a ho
    split at h
    · rename_i n g hn hg
      split at h
      · rename_i hc
        obtain ⟨rfl, h1⟩ := cArgs2 h
        simp only [Bool.and_eq_true, Bool.or_eq_true, beq_iff_eq, decide_eq_true_eq] at hc
        exact ⟨by rw [ho]; exact h1, fun ι H H' w ρ bx bx' x xs hs hv hx _ _ => hop_ldh hs ho hn hg hc.2 (by rw [ho] at hv; exact hv) hx⟩
      · simp at h
    · simp at h
  · rename_i t a y ho
    split at h
    · rename_i n hn
      split at h
      · obtain ⟨rfl, h1⟩ := cArgs2 h
        exact ⟨by rw [ho]; exact h1, fun ι H H' w ρ bx bx' x xs hs hv hx _ _ => hop_sth hs ho hn (by rw [ho] at hv; exact hv) hx⟩
      · simp at h
    · simp at h
  · rename_i y ho
    obtain ⟨rfl, h1⟩ := cArgs2 h
    exact ⟨by rw [ho]; exact h1, fun ι H H' w ρ bx bx' x xs hs hv hx _ _ => hop_nc hs ho (by rw [ho] at hv; exact hv) hx⟩
  · rename_i op t a b t' ho
    split at h
    · rename_i e he
      obtain ⟨rfl, h1⟩ := cArgs2 h
      exact ⟨by rw [ho]; exact h1, fun ι H H' w ρ bx bx' x xs hs hv hx _ _ => hop_bin hs ho he (by rw [ho] at hv; exact hv) hx⟩
    · simp at h
  · rename_i t y ho
    obtain ⟨rfl, h1⟩ := cArgs2 h
    exact ⟨by rw [ho]; exact h1, fun ι H H' w ρ bx bx' x xs hs hv hx _ _ => hop_un hs ho (.inl ⟨rfl, rfl⟩) (by rw [ho] at hv; exact hv) hx⟩
  · rename_i t y ho
    obtain ⟨rfl, h1⟩ := cArgs2 h
    exact ⟨by rw [ho]; exact h1, fun ι H H' w ρ bx bx' x xs hs hv hx _ _ => hop_un hs ho (.inr ⟨rfl, rfl⟩) (by rw [ho] at hv; exact hv) hx⟩
  · rename_i s d y ho
    split at h
    · rename_i k1 k2 h1 h2
      obtain ⟨rfl, h3⟩ := cArgs2 h
      exact ⟨by rw [ho]; exact h3, fun ι H H' w ρ bx bx' x xs hs hv hx _ _ => hop_cvi hs ho h1 h2 (by rw [ho] at hv; exact hv) hx⟩
    · rename_i e h1 h2
      split at h
      · rename_i h3
        obtain ⟨rfl, h4⟩ := cArgs2 h
        exact ⟨by rw [ho]; exact h4, fun ι H H' w ρ bx bx' x xs hs hv hx _ _ => hop_cvs hs ho h1 h2 h3 (by rw [ho] at hv; exact hv) hx⟩
      · simp at h
    · simp at h
  · rename_i f first captured ho
    split at h
    · rename_i hf
      have hf : first = #[] := by simpa using hf
      subst hf
      obtain ⟨rfl, h1⟩ := cArgs2 h
      exact ⟨by rw [ho]; exact h1, fun ι H H' w ρ bx bx' x xs hs hv hx _ _ => hop_mf hs ho (by rw [ho] at hv; exact hv) hx⟩
    · simp at h
  · rename_i t l c ho
    split at h
    · rename_i e he
      split at h
      · rename_i z b hz hb
        split at h
        · rename_i hpos
          obtain ⟨rfl, h1⟩ := cArgs2 h
          exact ⟨by rw [ho]; exact h1, fun ι H H' w ρ bx bx' x xs hs hv hx _ _ => hop_mk hs ho he hz hpos hb (by rw [ho] at hv; exact hv) hx⟩
        · simp at h
      · simp at h
    · simp at h
  · rename_i t a lo hi ho
    split at h
    · rename_i e hu
      split at h
      · rename_i s hs'
        obtain ⟨rfl, h1⟩ := cArgs2 h
        exact ⟨by rw [ho]; exact h1, fun ι H H' w ρ bx bx' x xs hs hv hx _ _ => hop_sl hs ho hu hs' (by rw [ho] at hv; exact hv) hx⟩
      · simp at h
    · simp at h
  · rename_i s a f ho
    split at h
    · rename_i fs hu
      split at h
      · rename_i fd hf
        split at h
        · rename_i m hsz
          obtain ⟨rfl, h1⟩ := cArgs2 h
          exact ⟨by rw [ho]; exact h1, fun ι H H' w ρ bx bx' x xs hs hv hx _ _ => hop_fa hs ho hu hf hsz (by rw [ho] at hv; exact hv) hx⟩
        · simp at h
      · simp at h
    · simp at h
  · rename_i t a i ho
    split at h
    · rename_i e hu
      split at h
      · rename_i s hs'
        obtain ⟨rfl, h1⟩ := cArgs2 h
        exact ⟨by rw [ho]; exact h1, fun ι H H' w ρ bx bx' x xs hs hv hx _ _ => hop_ia hs ho hu hs' (by rw [ho] at hv; exact hv) hx⟩
      · simp at h
    · simp at h
  · rename_i y i ho
    obtain ⟨rfl, h1⟩ := cArgs2 h
    exact ⟨by rw [ho]; exact h1, fun ι H H' w ρ bx bx' x xs hs hv hx _ _ => hop_ex hs ho (by rw [ho] at hv; exact hv) hx⟩
  · rename_i c ho
    exact cCall_ok ho h
  · simp at h

end Go.Proofs.Ytpnbojehfngigaa.IM

/- The ideal machine: the frame inside a region: operands, guards, boxes. -/
namespace Go.Proofs.Ytpnbojehfngigaa.IM
open Go
set_option linter.unusedVariables false
set_option linter.unusedSimpArgs false

/-- An operand's value: a place of a box is the real box's place, where the box has been made. -/
def ERel (ι : Inj) (C : Cfg) (bx : List (List Value)) (a : Act) : EV → Value → Prop
  | .adr t off, y => ∀ cs, bx[t]? = some cs → cs ≠ [] → ∃ d r, C.B[t]? = some d ∧ a.tmps[d]? = some (.pointer (some ⟨r, 0, none⟩)) ∧ y = .pointer (some ⟨r, off, none⟩)
  | .non, _ => True
  | x, y => VRel ι x y

structure RR (P : Program) (C : Cfg) (E : Nat → Prop) (ι0 : Inj) (H0 : Heap) (W0 : World) (ι : Inj) (vs : List (Option Value)) (env : Env) (bx : List (List Value)) (H : Heap) (a : Act) (w : World) : Prop where
  defers : a.defers = []
  size : a.tmps.size = C.nt
  sim : Sim ι H w
  ext : Ext E ι0 ι H0 H W0 w
  envr : ∀ (d : Nat) (x : EV), lk env d = some x → ∃ y, a.tmps[d]? = some y ∧ ERel ι C bx a x y
  vars : ∀ (k d : Nat) (x : Value), C.K[k]? = some d → vs[k]? = some (some x) → lk env d = none → ∃ y, a.tmps[d]? = some y ∧ V1Rel ι x y
  nb : bx.length = C.B.length
  box : ∀ (t d : Nat) (cs : List Value), C.B[t]? = some d → bx[t]? = some cs → cs ≠ [] →
    ∃ r Cs e, a.tmps[d]? = some (.pointer (some ⟨r, 0, none⟩)) ∧ w.heap[r]? = some (.cells Cs e (0, 0)) ∧ LRel (CRel ι) cs Cs.toList ∧ (∀ b L, ι b = some L → L.r ≠ r) ∧ (W0.heap.size ≤ r ∨ E r)
  apart : ∀ (t t' d d' : Nat) (cs cs' : List Value) (r : Nat), C.B[t]? = some d → C.B[t']? = some d' → bx[t]? = some cs → bx[t']? = some cs' → cs ≠ [] → cs' ≠ [] →
    a.tmps[d]? = some (.pointer (some ⟨r, 0, none⟩)) → a.tmps[d']? = some (.pointer (some ⟨r, 0, none⟩)) → t = t'

/-- The configuration is in order. -/
structure COk (C : Cfg) : Prop where
  lt : ∀ d, d ∈ C.K ++ C.B → d < C.nt
  nd : (C.K ++ C.B).Nodup

section
variable {P : Program} {C : Cfg} {ι0 ι : Inj} {H0 : Heap} {E : Nat → Prop} {W0 w : World} {vs : List (Option Value)} {env : Env} {bx : List (List Value)} {H : Heap} {a : Act} {ops : Array Oper}

theorem eval_tmp {d : Nat} {y : Value} (h : a.tmps[d]? = some y) : a.eval (.tmp d) = y := by
  simp [Act.eval, Array.getD_eq_getD_getElem?, h]

theorem idxOf_get {l : List Nat} {d i : Nat} (h : l.idxOf? d = some i) : l[i]? = some d := by
  rw [List.idxOf?_eq_some_iff] at h
  obtain ⟨h1, h2, h3⟩ := h
  rw [List.getElem?_eq_getElem h1]
  simpa using h2

theorem cOpd_rel (h : RR P C E ι0 H0 W0 ι vs env bx H a w) {o : Operand} {io : IOpd} {x : EV} (ho : cOpd C o = some io) (hx : ev env vs io = some x) : ERel ι C bx a x (a.eval o) := by
  unfold cOpd at ho
  split at ho
  · rename_i t
    split at ho
    · rename_i i hi
      simp only [Option.some.injEq] at ho; subst ho
      simp only [ev, Option.some.injEq] at hx; subst hx
      intro cs hcs hne
      obtain ⟨r, Cs, e, h1, _⟩ := h.box i t cs (idxOf_get hi) hcs hne
      exact ⟨t, r, idxOf_get hi, h1, by rw [eval_tmp h1]⟩
    · split at ho
      · rename_i k hk
        simp only [Option.some.injEq] at ho; subst ho
        simp only [ev] at hx
        split at hx
        · rename_i x' hl
          simp only [Option.some.injEq] at hx; subst hx
          obtain ⟨y, h1, h2⟩ := h.envr t x' hl
          rw [eval_tmp h1]; exact h2
        · rename_i hl
          split at hx
          · rename_i x' hv
            simp only [Option.some.injEq] at hx; subst hx
            obtain ⟨y, h1, h2⟩ := h.vars k t x' (idxOf_get hk) hv hl
            rw [eval_tmp h1]; exact .one h2
          · simp at hx
      · simp only [Option.some.injEq] at ho; subst ho
        simp only [ev] at hx
        obtain ⟨y, h1, h2⟩ := h.envr t x hx
        rw [eval_tmp h1]; exact h2
  · rename_i v
    split at ho
    · rename_i hp
      simp only [Option.some.injEq] at ho; subst ho
      simp only [ev, Option.some.injEq] at hx; subst hx
      exact .one (.cell (plain_rel hp))
    · simp at ho
  · simp at ho
  · rename_i f
    simp only [Option.some.injEq] at ho; subst ho
    simp only [ev, Option.some.injEq] at hx; subst hx
    exact .one (.cell (.fn (xs := []) (ys := []) .nil))

theorem cOpds_rel (h : RR P C E ι0 H0 W0 ι vs env bx H a w) : ∀ {os : List Operand} {ios : List IOpd} {xs : List EV}, cOpds C os = some ios → evs env vs ios = some xs → LRel (ERel ι C bx a) xs (os.map a.eval)
  | [], ios, xs, ho, hx => by
    simp only [cOpds, Option.some.injEq] at ho; subst ho
    simp only [evs, Option.some.injEq] at hx; subst hx
    exact .nil
  | o :: os, ios, xs, ho, hx => by
    simp only [cOpds] at ho
    split at ho
    · rename_i y ys h1 h2
      simp only [Option.some.injEq] at ho; subst ho
      simp only [evs] at hx
      split at hx
      · rename_i x xs' h3 h4
        simp only [Option.some.injEq] at hx; subst hx
        exact .cons (cOpd_rel h h1 h3) (cOpds_rel h h2 h4)
      · simp at hx
    · simp at ho

theorem noadr_rel : ∀ {xs : List EV} {ys : List Value}, noadr xs = true → LRel (ERel ι C bx a) xs ys → LRel (VRel ι) xs ys
  | [], ys, hn, h => by cases h; exact .nil
  | .val v :: xs, ys, hn, h => by
    cases h with
    | cons h1 h2 => exact .cons h1 (noadr_rel (by simpa [noadr] using hn) h2)
  | .tup v :: xs, ys, hn, h => by
    cases h with
    | cons h1 h2 => exact .cons h1 (noadr_rel (by simpa [noadr] using hn) h2)
  | .adr t o :: xs, ys, hn, h => by simp [noadr] at hn
  | .non :: xs, ys, hn, h => by simp [noadr] at hn

theorem allV_noadr : ∀ {xs : List EV} {vs : List Value}, iexec.allV xs = some vs → noadr xs = true
  | [], vs, h => rfl
  | .val v :: xs, vs, h => by
    simp only [iexec.allV] at h
    cases hq : iexec.allV xs with
    | none => rw [hq] at h; simp at h
    | some q => simpa [noadr] using allV_noadr hq
  | .adr _ _ :: xs, vs, h => by simp [iexec.allV] at h
  | .tup _ :: xs, vs, h => by simp [iexec.allV] at h
  | .non :: xs, vs, h => by simp [iexec.allV] at h

theorem want_rel (h : RR P C E ι0 H0 W0 ι vs env bx H a w) {o : Oper} {g : Option (Nat × Bool)} {b : Bool} (hg : cGuard ops o = some g) (hw : want env g = some b) : Region.wanted o (yielded ops a.tmps) = b := by
  unfold cGuard at hg
  unfold Region.wanted
  split at hg
  · rename_i hn
    simp only [Option.some.injEq] at hg; subst hg
    simp only [want, Option.some.injEq] at hw; subst hw
    simp [hn]
  · rename_i j b' hn
    split at hg
    · rename_i d hd
      simp only [Option.some.injEq] at hg; subst hg
      simp only [hn]
      simp only [want] at hw
      unfold yielded
      rw [hd]
      split at hw
      · rename_i c hl
        obtain ⟨y, h1, h2⟩ := h.envr d _ hl
        have := (VRel.v1 h2).bool; subst this
        simp only [Option.some.injEq] at hw; subst hw
        simp [h1]
      · rename_i ts hl
        obtain ⟨y, h1, h2⟩ := h.envr d _ hl
        obtain ⟨ys, rfl, _⟩ := VRel.tuple h2
        simp only [Option.some.injEq] at hw; subst hw
        simp [h1]
      · simp at hw
    · simp at hg

end
end Go.Proofs.Ytpnbojehfngigaa.IM

/- The ideal machine: the frame inside a region, step by step. -/
namespace Go.Proofs.Ytpnbojehfngigaa.IM
open Go
set_option linter.unusedVariables false
set_option linter.unusedSimpArgs false

section
variable {P : Program} {C : Cfg} {ι0 ι ι' : Inj} {H0 : Heap} {E : Nat → Prop} {W0 w w' : World} {vs : List (Option Value)} {env : Env} {bx : List (List Value)} {H H' : Heap} {a : Act} {ops : Array Oper}

theorem put_get? {d : Nat} {v : Value} (h : d < a.tmps.size) (i : Nat) : (a.put (some d) v).tmps[i]? = if i = d then some v else a.tmps[i]? := by
  simp only [Act.put]
  by_cases hi : i = d
  · subst hi; rw [if_pos rfl]; simp [h]
  · rw [if_neg hi, Array.getElem?_setIfInBounds_ne (by omega)]

theorem ERel.mono (hs : Sub ι ι') {x : EV} {y : Value} (h : ERel ι C bx a x y) : ERel ι' C bx a x y := by
  cases x with
  | adr t o => exact h
  | non => trivial
  | val v => exact VRel.mono hs h
  | tup v => exact VRel.mono hs h

/-- The world goes on, the frame's own stays. -/
theorem RR.world (h : RR P C E ι0 H0 W0 ι vs env bx H a w) (hs : Sim ι' H' w') (he : Ext noE ι ι' H H' w w') : RR P C E ι0 H0 W0 ι' vs env bx H' a w' := by
  have hsub : Sub ι ι' := he.sub h.sim
  refine ⟨h.defers, h.size, hs, h.ext.trans he, fun d x hd => ?_, fun k d x hk hx hn => ?_, h.nb, fun t d cs hd hc hne => ?_, h.apart⟩
  · obtain ⟨y, h1, h2⟩ := h.envr d x hd
    exact ⟨y, h1, h2.mono hsub⟩
  · obtain ⟨y, h1, h2⟩ := h.vars k d x hk hx hn
    exact ⟨y, h1, h2.mono hsub⟩
  · obtain ⟨r, Cs, e, h1, h2, h3, h4, h5⟩ := h.box t d cs hd hc hne
    have hr : r < w.heap.size := (Array.getElem?_eq_some_iff.1 h2).1
    refine ⟨r, Cs, e, h1, by rw [he.keep r hr (fun b L _ hb _ => h4 b L hb) (fun h => h)]; exact h2, h3.mono fun _ _ h => h.mono hsub, fun b L hb e => ?_, h5⟩
    by_cases hbl : b < H.length
    · exact h4 b L (by rw [← he.old b hbl]; exact hb) e
    · rcases he.new b L (by omega) hb with h6 | ⟨b0, L0, _, h6, _, h7⟩
      · omega
      · exact h4 b0 L0 h6 (h7.trans e)

theorem ERel.put {d : Nat} {v : Value} (hd : d < a.tmps.size) (hB : d ∉ C.B) {x : EV} {y : Value} (h : ERel ι C bx a x y) : ERel ι C bx (a.put (some d) v) x y := by
  cases x with
  | adr t o =>
    intro cs hc hne
    obtain ⟨d', r, h1, h2, h3⟩ := h cs hc hne
    refine ⟨d', r, h1, ?_, h3⟩
    have : d' ≠ d := fun e => hB (e ▸ List.mem_of_getElem? h1)
    rw [put_get? hd, if_neg this]; exact h2
  | non => trivial
  | val v => exact h
  | tup v => exact h

/-- A temporary that is no box's gets a value. -/
theorem RR.bind (hC : COk C) (h : RR P C E ι0 H0 W0 ι vs env bx H a w) {d : Nat} {x : EV} {y : Value} (hd : d < C.nt) (hB : d ∉ C.B) (hx : ERel ι C bx a x y) : RR P C E ι0 H0 W0 ι vs ((d, x) :: env) bx H (a.put (some d) y) w := by
  have hd' : d < a.tmps.size := by rw [h.size]; exact hd
  have hne : ∀ {t d'}, C.B[t]? = some d' → d' ≠ d := fun h1 e => hB (e ▸ List.mem_of_getElem? h1)
  refine ⟨h.defers, ?_, h.sim, h.ext, fun d' x' hl => ?_, fun k d' x' hk hx' hn => ?_, h.nb, fun t d' cs hd1 hc hne1 => ?_, fun t t' d1 d2 cs cs' r h1 h2 h3 h4 h5 h6 h7 h8 => ?_⟩
  · simp [Act.put, h.size]
  · simp only [lk] at hl
    by_cases hdd : d = d'
    · subst hdd
      rw [if_pos rfl] at hl
      simp only [Option.some.injEq] at hl; subst hl
      exact ⟨y, by rw [put_get? hd', if_pos rfl], hx.put hd' hB⟩
    · rw [if_neg hdd] at hl
      obtain ⟨y', h1, h2⟩ := h.envr d' x' hl
      exact ⟨y', by rw [put_get? hd', if_neg (Ne.symm hdd)]; exact h1, h2.put hd' hB⟩
  · simp only [lk] at hn
    by_cases hdd : d = d'
    · rw [if_pos hdd] at hn; simp at hn
    · rw [if_neg hdd] at hn
      obtain ⟨y', h1, h2⟩ := h.vars k d' x' hk hx' hn
      exact ⟨y', by rw [put_get? hd', if_neg (Ne.symm hdd)]; exact h1, h2⟩
  · obtain ⟨r, Cs, e, h1, h2⟩ := h.box t d' cs hd1 hc hne1
    exact ⟨r, Cs, e, by rw [put_get? hd', if_neg (hne hd1)]; exact h1, h2⟩
  · rw [put_get? hd', if_neg (hne h1)] at h7
    rw [put_get? hd', if_neg (hne h2)] at h8
    exact h.apart t t' d1 d2 cs cs' r h1 h2 h3 h4 h5 h6 h7 h8

theorem RR.bind1 (hC : COk C) (h : RR P C E ι0 H0 W0 ι vs env bx H a w) {dst : Option Nat} {x : EV} {y : Value} (hd : ∀ d, dst = some d → d < C.nt ∧ d ∉ C.B) (hx : ERel ι C bx a x y) :
    RR P C E ι0 H0 W0 ι vs (bind1 env dst (some x)) bx H (a.put dst y) w := by
  cases dst with
  | none => exact h
  | some d => exact h.bind hC (hd d rfl).1 (hd d rfl).2 hx

theorem RR.bind0 (hC : COk C) (h : RR P C E ι0 H0 W0 ι vs env bx H a w) {dst : Option Nat} (hd : ∀ d, dst = some d → d < C.nt ∧ d ∉ C.B) :
    RR P C E ι0 H0 W0 ι vs (IM.bind1 env dst none) bx H (a.put dst undef) w := by
  cases dst with
  | none => exact h
  | some d => exact h.bind hC (hd d rfl).1 (hd d rfl).2 (x := .tup []) VRel.undef

theorem Ext.box (h : Ext E ι0 ι H0 H W0 w) {r : Nat} (hr : W0.heap.size ≤ r ∨ E r) (cs : Array Value) : Ext E ι0 ι H0 H W0 (w.setRow r cs) where
  len := h.len
  dead := h.dead
  old := h.old
  new := h.new
  os := h.os
  tape := h.tape
  output := h.output
  size := by rw [setRow_size]; exact h.size
  keep k hk hn hE := by rw [setRow_other w r k cs (by rcases hr with h1 | h1; omega; rintro rfl; exact hE h1)]; exact h.keep k hk hn hE

theorem Sim.box (h : Sim ι H w) {r : Nat} (hr : ∀ b L, ι b = some L → L.r ≠ r) (cs : Array Value) : Sim ι H (w.setRow r cs) :=
  ⟨fun b L hb => by rw [setRow_size]; exact h.dom b L hb, fun b L B h1 h2 => (h.blk b L B h1 h2).of_heap (setRow_other w r L.r cs (hr b L h1)), h.inj⟩

/-- A box is written. -/
theorem RR.stBox (h : RR P C E ι0 H0 W0 ι vs env bx H a w) {t o : Nat} {cs : List Value} {d r : Nat} (hd : C.B[t]? = some d) (hc : bx[t]? = some cs) (hne : cs ≠ []) (hr : a.tmps[d]? = some (.pointer (some ⟨r, 0, none⟩)))
    {us ys : List Value} (hu : LRel (CRel ι) us ys) (hl : o + us.length ≤ cs.length) :
    ∃ w', (storeCells ⟨r, o, none⟩ ys).run P w = .ok () w' ∧ RR P C E ι0 H0 W0 ι vs env (bx.set t (put cs o us)) H a w' := by
  obtain ⟨r', Cs, e, h1, h2, h3, h4, h5⟩ := h.box t d cs hd hc hne
  rw [hr] at h1; simp only [Option.some.injEq, Value.pointer.injEq, Addr.mk.injEq, and_true] at h1
  subst h1
  have hlen := h3.len
  simp at hlen
  have hul := hu.len
  have hst := run_storeCells_at P r o e ys 0 Cs w h2 (by omega) hu.one
  simp only [Nat.add_zero] at hst
  refine ⟨_, hst, ?_⟩
  have ht : t < bx.length := (List.getElem?_eq_some_iff.1 hc).1
  have hput : put cs o us ≠ [] := by
    intro e0
    have := put_length cs o us hl
    rw [e0] at this
    simp at this
    exact hne (List.length_eq_zero_iff.1 this.symm)
  have hget : ∀ (t' : Nat) (cs' : List Value), (bx.set t (put cs o us))[t']? = some cs' → cs' ≠ [] → ∃ c0, bx[t']? = some c0 ∧ c0 ≠ [] := by
    intro t' cs' h6 h7
    by_cases htt : t = t'
    · subst htt; exact ⟨cs, hc, hne⟩
    · rw [List.getElem?_set_ne htt] at h6; exact ⟨cs', h6, h7⟩
  refine ⟨h.defers, h.size, h.sim.box h4 _, h.ext.box h5 _, fun d' x hl' => ?_, h.vars, by simpa using h.nb, fun t' d' cs' hd1 hc1 hne1 => ?_, fun t1 t2 d1 d2 c1 c2 r1 g1 g2 g3 g4 g5 g6 g7 g8 => ?_⟩
  · obtain ⟨y, g1, g2⟩ := h.envr d' x hl'
    refine ⟨y, g1, ?_⟩
    cases x with
    | val v => exact g2
    | tup v => exact g2
    | non => trivial
    | adr t' o' =>
      intro cs' hc' hne'
      obtain ⟨c0, g3, g4⟩ := hget t' cs' hc' hne'
      exact g2 c0 g3 g4
  · by_cases htt : t = t'
    · subst htt
      rw [hd] at hd1; simp only [Option.some.injEq] at hd1; subst hd1
      rw [List.getElem?_set_self ht] at hc1
      simp only [Option.some.injEq] at hc1; subst hc1
      refine ⟨r, _, e, hr, setRow_heap w r Cs _ e (0, 0) h2, ?_, h4, h5⟩
      have := h3.put o hu
      unfold IM.put at this
      exact this
    · rw [List.getElem?_set_ne htt] at hc1
      obtain ⟨r', Cs', e', g1, g2, g3, g4, g5⟩ := h.box t' d' cs' hd1 hc1 hne1
      have hrr : r' ≠ r := fun e0 => by
        subst e0
        exact htt (h.apart t t' d d' cs cs' r' hd hd1 hc hc1 hne hne1 hr g1)
      exact ⟨r', Cs', e', g1, by rw [setRow_other w r r' _ hrr]; exact g2, g3, g4, g5⟩
  · obtain ⟨c3, g9, g10⟩ := hget t1 c1 g3 g5
    obtain ⟨c4, g11, g12⟩ := hget t2 c2 g4 g6
    exact h.apart t1 t2 d1 d2 c3 c4 r1 g1 g2 g9 g11 g10 g12 g7 g8

theorem lk_clr (env : Env) (t d : Nat) : lk (clr env t) d = (lk env d).map (clr1 t) := by
  induction env with
  | nil => rfl
  | cons e env ih =>
    obtain ⟨k, y⟩ := e
    simp only [clr, lk]
    split
    · rfl
    · exact ih

/-- A new box. -/
theorem RR.newBox (hC : COk C) (h : RR P C E ι0 H0 W0 ι vs env bx H a w) {t d : Nat} (hd : C.B[t]? = some d) {us : List Value} {v : Value} {e : TypeId} (hu : LRel (CRel ι) us v.cells.toList) (ht : t < bx.length) :
    RR P C E ι0 H0 W0 ι vs ((d, .adr t 0) :: clr env t) (bx.set t us) H (a.put (some d) (.pointer (some ⟨w.heap.size, 0, none⟩))) (w.alloc (.cells v.cells e)) := by
  have hmem : d ∈ C.B := List.mem_of_getElem? hd
  have hdn : d < a.tmps.size := by rw [h.size]; exact hC.lt d (by simp [hmem])
  have hnd := hC.nd
  rw [List.nodup_append] at hnd
  have hne : ∀ {t' d'}, C.B[t']? = some d' → t' ≠ t → d' ≠ d := fun {t' d'} h1 h2 e0 => by
    subst e0
    obtain ⟨g1, g2⟩ := List.getElem?_eq_some_iff.1 h1
    obtain ⟨g3, g4⟩ := List.getElem?_eq_some_iff.1 hd
    exact h2 ((List.getElem_inj hnd.2.1).1 (g2.trans g4.symm))
  have hK : ∀ {k d'}, C.K[k]? = some d' → d' ≠ d := fun {k d'} h1 e0 => hnd.2.2 d' (List.mem_of_getElem? h1) d hmem e0
  have hsz : (w.alloc (.cells v.cells e)).heap.size = w.heap.size + 1 := by rw [alloc_heap]; simp
  have hold : ∀ k, k < w.heap.size → (w.alloc (.cells v.cells e)).heap[k]? = w.heap[k]? := fun k hk => RowKit.Below.heap_alloc w _ k hk
  have hlt : ∀ {t' d' cs}, C.B[t']? = some d' → bx[t']? = some cs → cs ≠ [] → ∀ r, a.tmps[d']? = some (Value.pointer (some ⟨r, 0, none⟩)) → r < w.heap.size := fun {t' d' cs} g1 g2 g3 r g4 => by
    obtain ⟨r', Cs, e', g5, g6, _⟩ := h.box t' d' cs g1 g2 g3
    rw [g4] at g5; simp only [Option.some.injEq, Value.pointer.injEq, Addr.mk.injEq, and_true] at g5
    subst g5
    exact (Array.getElem?_eq_some_iff.1 g6).1
  refine ⟨h.defers, by simp [Act.put, h.size], ?_, ?_, fun d' x hl => ?_, fun k d' x hk hx hn => ?_, by simpa using h.nb, fun t' d' cs' hd1 hc1 hne1 => ?_, fun t1 t2 d1 d2 c1 c2 r1 g1 g2 g3 g4 g5 g6 g7 g8 => ?_⟩
  · exact ⟨fun b L hb => by have := h.sim.dom b L hb; omega, fun b L B h1 h2 => (h.sim.blk b L B h1 h2).of_heap (hold _ (h.sim.dom b L h1).2), h.sim.inj⟩
  · exact ⟨h.ext.len, h.ext.dead, h.ext.old, h.ext.new, h.ext.os, h.ext.tape, h.ext.output, by have := h.ext.size; omega, fun r hr hn hE => by rw [hold r (by have := h.ext.size; omega)]; exact h.ext.keep r hr hn hE⟩
  · simp only [lk] at hl
    split at hl
    · rename_i hdd
      simp only [Option.some.injEq] at hl; subst hl
      refine ⟨_, by rw [put_get? hdn, if_pos hdd.symm], ?_⟩
      intro cs hc hn
      exact ⟨d, w.heap.size, hd, by rw [put_get? hdn, if_pos rfl], rfl⟩
    · rename_i hdd
      rw [lk_clr] at hl
      cases hq : lk env d' with
      | none => rw [hq] at hl; simp at hl
      | some y =>
        rw [hq] at hl; simp only [Option.map_some, Option.some.injEq] at hl
        obtain ⟨z, g1, g2⟩ := h.envr d' y hq
        refine ⟨z, by rw [put_get? hdn, if_neg (Ne.symm hdd)]; exact g1, ?_⟩
        subst hl
        cases y with
        | val v => exact g2
        | tup v => exact g2
        | non => trivial
        | adr t' o =>
          simp only [clr1]
          split
          · trivial
          · rename_i htt
            intro cs hc hn
            rw [List.getElem?_set_ne (Ne.symm htt)] at hc
            obtain ⟨d1, r, g3, g4, g5⟩ := g2 cs hc hn
            exact ⟨d1, r, g3, by rw [put_get? hdn, if_neg (hne g3 htt)]; exact g4, g5⟩
  · simp only [lk] at hn
    split at hn
    · simp at hn
    · rw [lk_clr] at hn
      have hn' : lk env d' = none := by
        cases hq : lk env d' with
        | none => rfl
        | some y => rw [hq] at hn; simp at hn
      obtain ⟨y, g1, g2⟩ := h.vars k d' x hk hx hn'
      exact ⟨y, by rw [put_get? hdn, if_neg (hK hk)]; exact g1, g2⟩
  · by_cases htt : t = t'
    · subst htt
      rw [hd] at hd1; simp only [Option.some.injEq] at hd1; subst hd1
      rw [List.getElem?_set_self ht] at hc1
      simp only [Option.some.injEq] at hc1; subst hc1
      refine ⟨w.heap.size, v.cells, e, by rw [put_get? hdn, if_pos rfl], by rw [alloc_heap]; simp, hu, fun b L hb => by have := (h.sim.dom b L hb).2; omega, .inl h.ext.size⟩
    · rw [List.getElem?_set_ne htt] at hc1
      obtain ⟨r', Cs', e', g1, g2, g3, g4, g5⟩ := h.box t' d' cs' hd1 hc1 hne1
      exact ⟨r', Cs', e', by rw [put_get? hdn, if_neg (hne hd1 (Ne.symm htt))]; exact g1, by rw [hold _ (Array.getElem?_eq_some_iff.1 g2).1]; exact g2, g3, g4, g5⟩
  · by_cases h1 : t1 = t
    · by_cases h2 : t2 = t
      · omega
      · subst h1
        rw [hd] at g1; simp only [Option.some.injEq] at g1; subst g1
        rw [put_get? hdn, if_pos rfl] at g7
        simp only [Option.some.injEq, Value.pointer.injEq, Addr.mk.injEq, and_true] at g7
        subst g7
        rw [put_get? hdn, if_neg (hne g2 h2)] at g8
        rw [List.getElem?_set_ne (Ne.symm h2)] at g4
        have := hlt g2 g4 g6 _ g8
        omega
    · rw [put_get? hdn, if_neg (hne g1 h1)] at g7
      rw [List.getElem?_set_ne (Ne.symm h1)] at g3
      by_cases h2 : t2 = t
      · subst h2
        rw [hd] at g2; simp only [Option.some.injEq] at g2; subst g2
        rw [put_get? hdn, if_pos rfl] at g8
        simp only [Option.some.injEq, Value.pointer.injEq, Addr.mk.injEq, and_true] at g8
        subst g8
        have := hlt g1 g3 g5 _ g7
        omega
      · rw [put_get? hdn, if_neg (hne g2 h2)] at g8
        rw [List.getElem?_set_ne (Ne.symm h2)] at g4
        exact h.apart t1 t2 d1 d2 c1 c2 r1 g1 g2 g3 g4 g5 g6 g7 g8

end
end Go.Proofs.Ytpnbojehfngigaa.IM

/- The ideal machine: one operation inside a region, in the real machine. -/
namespace Go.Proofs.Ytpnbojehfngigaa.IM
open Go
set_option linter.unusedVariables false
set_option linter.unusedSimpArgs false

abbrev Res3 := Option (Option EV × List (List Value) × Heap)

section
variable {P : Program} {C : Cfg} {ι0 ι ι' : Inj} {H0 : Heap} {E : Nat → Prop} {W0 w w' : World} {vs : List (Option Value)} {env : Env} {bx bx' : List (List Value)} {H H' : Heap} {a : Act} {ops : Array Oper} {x : Option EV}

/-- Operands that are places of boxes stand at three operations alone. -/
theorem iexec_adr {k : IK} {xs : List EV} (ho : okArgs k xs = true) (hx : iexec k xs bx H = some (x, bx', H')) : noadr xs = true ∨ (∃ off t o, k = .fa off ∧ xs = [.adr t o]) ∨ (∃ n g t o, k = .ld n g ∧ xs = [.adr t o]) ∨ (∃ n t o v, k = .st n ∧ xs = [.adr t o, .val v]) := by
  cases k with
  | fa off =>
    rcases xs with _ | ⟨y, _ | ⟨z, l⟩⟩
    · exact .inl rfl
    · cases y with
      | adr t o => exact .inr (.inl ⟨_, _, _, rfl, rfl⟩)
      | non => exact absurd (show (none : Res3) = _ from hx) (by simp)
      | _ => exact .inl rfl
    · cases y <;> exact absurd (show (none : Res3) = _ from hx) (by simp)
  | ld n g =>
    rcases xs with _ | ⟨y, _ | ⟨z, l⟩⟩
    · exact .inl rfl
    · cases y with
      | adr t o => exact .inr (.inr (.inl ⟨_, _, _, _, rfl, rfl⟩))
      | non => exact absurd (show (none : Res3) = _ from hx) (by simp)
      | _ => exact .inl rfl
    · cases y <;> exact absurd (show (none : Res3) = _ from hx) (by simp)
  | st n =>
    rcases xs with _ | ⟨y, _ | ⟨z, _ | ⟨q, l⟩⟩⟩
    · exact .inl rfl
    · cases y <;> exact absurd (show (none : Res3) = _ from hx) (by simp)
    · cases y <;> cases z <;> first
        | exact .inl rfl
        | exact .inr (.inr (.inr ⟨_, _, _, _, rfl, rfl⟩))
        | exact absurd (show (none : Res3) = _ from hx) (by simp)
    · cases y <;> cases z <;> exact absurd (show (none : Res3) = _ from hx) (by simp)
  | _ => exact .inl ho


theorem run_call {o : Oper} {c : Call} {f : Nat} (ho : o.op = .call c) (hc : c.callee = .value (.func f)) (hf : Callable P f) (w : World) : (execOp a.eval o).run P w = .ok (.enter f (c.args.map a.eval)) w := by
  obtain ⟨fn, h1, h2, h3⟩ := hf
  have h4 : fn.body.isNone = false := by cases hb : fn.body <;> simp_all
  unfold execOp
  simp only [ho, resolve, hc, Act.eval, Deferred.ofValue, Sem.run_bind, Sem.run_pure, Result.andThen_ok, invoke, callFunc, run_program, h1, h3, h4, Bool.false_eq_true, if_false]
  simp

theorem run_callv {o : Oper} {c : Call} {t f : Nat} {cap : List Value} (ho : o.op = .call c) (hc : c.callee = .value (.tmp t)) (ht : a.eval (.tmp t) = .func (.func f) #[] cap.toArray) (hf : Callable P f) (w : World) :
    (execOp a.eval o).run P w = .ok (.enter f (c.args.map a.eval ++ cap.toArray)) w := by
  obtain ⟨fn, h1, h2, h3⟩ := hf
  have h4 : fn.body.isNone = false := by cases hb : fn.body <;> simp_all
  unfold execOp
  simp only [ho, resolve, hc, ht, Deferred.ofValue, Sem.run_bind, Sem.run_pure, Result.andThen_ok, invoke, callFunc, run_program, h1, h3, h4, Bool.false_eq_true, if_false]
  simp

theorem map_toArray (c : Call) (ρ : Operand → Value) : c.args.map ρ = (c.args.toList.map ρ).toArray := by
  apply Array.ext'; rw [Array.toList_map]

theorem wp_call {o : Oper} {f : Nat} {args : Array Value} {K : Act → World → Prop} {Q : Exit → Act → World → Prop} (hr : (execOp a.eval o).run P w = .ok (.enter f args) w)
    (hc : Calls P f args w fun e w' => ∃ v, e = .returned v ∧ K (a.put o.dst v) w') : o.wp P a w K Q := by
  unfold Oper.wp
  rw [hr, Oper.upon_enter]
  refine hc.mono fun e w' he => ?_
  obtain ⟨v, rfl, hk⟩ := he
  exact hk

theorem wp_left {o : Oper} {K : Act → World → Prop} {Q : Exit → Act → World → Prop} {n : Next} (hr : (execOp a.eval o).run P w = .ok n w') (hn : (∃ y, n = .value y ∧ K (a.put o.dst y) w') ∨ (n = .skip ∧ K (a.put o.dst undef) w')) : o.wp P a w K Q := by
  unfold Oper.wp
  rw [hr]
  rcases hn with ⟨y, rfl, hk⟩ | ⟨rfl, hk⟩
  · exact hk
  · exact hk

theorem cOper_spec {o : Oper} {io : IOp} (h : cOper P C ops o = some io) :
    io.dst = o.dst ∧ cGuard ops o = some io.guard ∧ (∀ d, o.dst = some d → d < C.nt ∧ (d ∈ C.B → io.guard = none ∧ ((∃ t, o.op = .alloc t) ∨ (∃ t y, o.op = .box t y)))) ∧
    ((∃ args, cOp P C o = some (io.k, args) ∧ io.args = args) ∨ (io.k = .bad)) := by
  unfold cOper at h
  split at h
  · rename_i g hg
    split at h
    · rename_i hd
      have hdst : ∀ d, o.dst = some d → d < C.nt ∧ (d ∈ C.B → g = none ∧ ((∃ t, o.op = .alloc t) ∨ (∃ t y, o.op = .box t y))) := by
        intro d he
        unfold dstOk at hd
        rw [he] at hd
        simp only [Bool.and_eq_true, decide_eq_true_eq, Bool.or_eq_true, Bool.not_eq_true'] at hd
        refine ⟨hd.1, fun hm => ?_⟩
        rcases hd.2 with h1 | h1
        · exact absurd (List.contains_iff_mem.2 hm) (by simpa using h1)
        · refine ⟨by simpa using h1.1, ?_⟩
          have h2 := h1.2
          unfold makes at h2
          split at h2
          · exact .inl ⟨_, ‹_›⟩
          · exact .inr ⟨_, _, ‹_›⟩
          · simp at h2
      cases hk : cOp P C o with
      | none =>
        rw [hk] at h
        simp only [Option.some.injEq] at h
        subst h
        exact ⟨rfl, hg, hdst, .inr rfl⟩
      | some r =>
        obtain ⟨k, xs⟩ := r
        rw [hk] at h
        simp only [Option.some.injEq] at h
        subst h
        exact ⟨rfl, hg, hdst, .inl ⟨xs, rfl, rfl⟩⟩
    · simp at h
  · simp at h

end
end Go.Proofs.Ytpnbojehfngigaa.IM

/- The ideal machine: one step inside a region, and a region whose order is the text's. -/
namespace Go.Proofs.Ytpnbojehfngigaa.IM
open Go
set_option linter.unusedVariables false
set_option linter.unusedSimpArgs false

section
variable {P : Program} {C : Cfg} {ι0 ι ι' : Inj} {H0 : Heap} {E : Nat → Prop} {W0 w w' : World} {vs : List (Option Value)} {env env' : Env} {bx bx' : List (List Value)} {H H' : Heap} {a : Act} {ops : Array Oper} {x : Option EV}

theorem ERel.val {v y : Value} (h : ERel ι C bx a (.val v) y) : V1Rel ι v y := VRel.v1 h

/-- An operation on a place of a box. -/
theorem adr_wp (hC : COk C) {o : Oper} {io : IOp} {xs : List EV} (hd : ∀ d, o.dst = some d → d < C.nt ∧ d ∉ C.B) (hk : cOp P C o = some (io.k, io.args)) (hr : LRel (ERel ι C bx a) xs ((opl o.op).map a.eval))
    (hx : iexec io.k xs bx H = some (x, bx', H')) (hs : (∃ off t o, io.k = .fa off ∧ xs = [.adr t o]) ∨ (∃ n g t o, io.k = .ld n g ∧ xs = [.adr t o]) ∨ (∃ n t o v, io.k = .st n ∧ xs = [.adr t o, .val v]))
    (h : RR P C E ι0 H0 W0 ι vs env bx H a w) {K : Act → World → Prop} {Q : Exit → Act → World → Prop} (hK : ∀ ι' a' w', (∃ y, a' = a.put o.dst y) → RR P C E ι0 H0 W0 ι' vs (bind1 (clrk io.k env) o.dst x) bx' H' a' w' → K a' w') : o.wp P a w K Q := by
  obtain ⟨hargs, hgood⟩ := cOp_ok hk
  rcases hs with ⟨off, t, o', hk1, rfl⟩ | ⟨n, g, t, o', hk1, rfl⟩ | ⟨n, t, o', v, hk1, rfl⟩
  · rw [hk1] at hx
    simp only [iexec] at hx
    cases hbt : bx[t]? with
    | none => rw [hbt] at hx; simp at hx
    | some cs =>
      rw [hbt] at hx
      simp only [] at hx
      split at hx
      case isFalse => simp at hx
      rename_i hlt
      simp only [Option.some.injEq, Prod.mk.injEq] at hx
      obtain ⟨rfl, rfl, rfl⟩ := hx
      rw [hk1] at hk
      obtain ⟨s, y, f, fs, fd, m, ho, hu, hf, hsz, hoff⟩ : ∃ s y f fs fd m, o.op = .fieldAddr s y f ∧ P.underlying s = some (.struct fs) ∧ fs[f]? = some fd ∧ size? P fd.type = some (m + 1) ∧ off = fd.offset := by
        unfold cOp at hk
        split at hk <;> first
          | (obtain ⟨h1, _⟩ := cArgs2 hk; simp at h1; done)
          | skip
        all_goals try (simp at hk; done)
        all_goals (repeat' split at hk)
        all_goals first
          | (obtain ⟨h1, _⟩ := cArgs2 hk; simp only [IK.fa.injEq] at h1; exact ⟨_, _, _, _, _, _, ‹_›, ‹_›, ‹_›, ‹_›, h1⟩)
          | (obtain ⟨h1, _⟩ := cArgs2 hk; simp at h1; done)
          | (simp at hk; done)
          | skip
        all_goals
          unfold cCall at hk
          (repeat' split at hk) <;> first
            | (obtain ⟨h1, _⟩ := cArgs2 hk; simp at h1; done)
            | (simp at hk; done)
      rw [ho] at hr
      simp only [opl, List.map_cons, List.map_nil] at hr
      cases hr with
      | cons hr1 _ =>
      have hne : cs ≠ [] := by rintro rfl; simp at hlt
      obtain ⟨d, r, g1, g2, g3⟩ := hr1 cs hbt hne
      subst hoff
      refine wp_left (n := .value (.pointer (some ⟨r, o' + fd.offset, none⟩))) (w' := w) ?_ (.inl ⟨_, rfl, hK ι _ _ ⟨_, rfl⟩ ?_⟩)
      · unfold execOp
        simp only [ho, g3]
        refine run_v ?_
        unfold Instr.fieldAt Instr.sureAddr
        simp only [Sem.run_bind, run_underlying hu, Result.andThen_ok, hf, Sem.run_pure, fieldPlace_run hsz, addr_add]
      · rw [hk1]
        exact h.bind1 hC hd (x := .adr t (o' + fd.offset)) (fun cs' h1 h2 => ⟨d, r, g1, g2, rfl⟩)
  · rw [hk1] at hx
    simp only [iexec] at hx
    cases hbt : bx[t]? with
    | none => rw [hbt] at hx; simp at hx
    | some cs =>
      rw [hbt] at hx
      simp only [] at hx
      split at hx
      case isFalse => simp at hx
      rename_i hle
      simp only [Option.some.injEq, Prod.mk.injEq] at hx
      obtain ⟨rfl, rfl, rfl⟩ := hx
      rw [hk1] at hk
      obtain ⟨ty, y, ho, hn, hg, hpos, h1⟩ : ∃ ty y, o.op = .load ty y ∧ size? P ty = some n ∧ agg? P ty = some g ∧ 0 < n ∧ (g = true ∨ n = 1) := by
        unfold cOp at hk
        split at hk <;> first
          | (obtain ⟨h1, _⟩ := cArgs2 hk; simp at h1; done)
          | skip
        all_goals try (simp at hk; done)
        all_goals (repeat' split at hk)
        all_goals first
          | (rename_i hc
             obtain ⟨h1, _⟩ := cArgs2 hk; simp only [IK.ld.injEq] at h1; obtain ⟨rfl, rfl⟩ := h1
             simp only [Bool.and_eq_true, Bool.or_eq_true, beq_iff_eq, decide_eq_true_eq] at hc
             exact ⟨_, _, ‹_›, ‹_›, ‹_›, hc.1, hc.2⟩)
          | (obtain ⟨h1, _⟩ := cArgs2 hk; simp at h1; done)
          | (simp at hk; done)
          | skip
        all_goals
          unfold cCall at hk
          (repeat' split at hk) <;> first
            | (obtain ⟨h1, _⟩ := cArgs2 hk; simp at h1; done)
            | (simp at hk; done)
      rw [ho] at hr
      simp only [opl, List.map_cons, List.map_nil] at hr
      cases hr with
      | cons hr1 _ =>
      have hne : cs ≠ [] := by rintro rfl; simp at hle; omega
      obtain ⟨d, r, g1, g2, g3⟩ := hr1 cs hbt hne
      obtain ⟨r', Cs, e, g4, g5, g6, g7, g8⟩ := h.box t d cs g1 hbt hne
      rw [g2] at g4; simp only [Option.some.injEq, Value.pointer.injEq, Addr.mk.injEq, and_true] at g4
      subst g4
      have hys := (g6.drop o').take n
      have hlen : ((cs.drop o').take n).length = n := by simp; omega
      have hcell : ∀ j v, ((Cs.toList.drop o').take n)[j]? = some v → w.cell? ((⟨r, o', none⟩ : Addr).add j) = some v := by
        intro j v hv
        rw [List.getElem?_take] at hv
        split at hv
        · rw [List.getElem?_drop] at hv
          rw [addr_add, cell_of g5]; simpa using hv
        · simp at hv
      refine wp_left (n := .value (mkv g ((Cs.toList.drop o').take n))) (w' := w) ?_ (.inl ⟨_, rfl, hK ι _ _ ⟨_, rfl⟩ ?_⟩)
      · unfold execOp
        simp only [ho, g3]
        refine run_v ?_
        unfold Instr.loadAt Instr.sureAddr loadVar
        simp only [Sem.run_bind, Sem.run_pure, Result.andThen_ok, run_isAgg P hg]
        have hl3 : ((Cs.toList.drop o').take n).length = n := by rw [← hys.len]; exact hlen
        cases g with
        | true =>
          have hl := run_loadCells_list (P := P) w ⟨r, o', none⟩ _ hcell
          rw [hl3] at hl
          simp only [if_true, Sem.run_bind, run_size? P hn, Result.andThen_ok, hl, Sem.run_pure]
          rfl
        | false =>
          have hn1 : n = 1 := by simpa using h1
          subst hn1
          match hq : (Cs.toList.drop o').take 1, hl3 with
          | [y], _ =>
            rw [hq] at hcell
            have := hcell 0 y rfl
            rw [addr_add] at this
            simp only [Bool.false_eq_true, if_false, run_load, Nat.add_zero] at this ⊢
            rw [this]; rfl
      · rw [hk1]
        exact h.bind1 hC hd (x := .val _) (VRel.one (mkv_rel hys (by rw [hlen]; exact h1)))
  · rw [hk1] at hx
    simp only [iexec] at hx
    cases hbt : bx[t]? with
    | none => rw [hbt] at hx; simp at hx
    | some cs =>
      rw [hbt] at hx
      simp only [] at hx
      split at hx
      case isFalse => simp at hx
      rename_i hle
      simp only [Option.some.injEq, Prod.mk.injEq] at hx
      obtain ⟨rfl, rfl, rfl⟩ := hx
      rw [hk1] at hk
      obtain ⟨ty, y, z, ho, hn, hpos⟩ : ∃ ty y z, o.op = .store ty y z ∧ size? P ty = some n ∧ 0 < n := by
        unfold cOp at hk
        split at hk <;> first
          | (obtain ⟨h1, _⟩ := cArgs2 hk; simp at h1; done)
          | skip
        all_goals try (simp at hk; done)
        all_goals (repeat' split at hk)
        all_goals first
          | (rename_i hc
             obtain ⟨h1, _⟩ := cArgs2 hk; simp only [IK.st.injEq] at h1; subst h1
             exact ⟨_, _, _, ‹_›, ‹_›, hc⟩)
          | (obtain ⟨h1, _⟩ := cArgs2 hk; simp at h1; done)
          | (simp at hk; done)
          | skip
        all_goals
          unfold cCall at hk
          (repeat' split at hk) <;> first
            | (obtain ⟨h1, _⟩ := cArgs2 hk; simp at h1; done)
            | (simp at hk; done)
      rw [ho] at hr
      simp only [opl, List.map_cons, List.map_nil] at hr
      cases hr with
      | cons hr1 hr2 => cases hr2 with
      | cons hr2 _ =>
      obtain ⟨hl, hle⟩ := hle
      have hne : cs ≠ [] := by rintro rfl; simp at hle; omega
      obtain ⟨d, r, g1, g2, g3⟩ := hr1 cs hbt hne
      have hc := hr2.val.cl
      obtain ⟨w', g4, g5⟩ := h.stBox (o := o') g1 hbt hne g2 hc (by omega)
      refine wp_left (n := .skip) (w' := w') ?_ (.inr ⟨rfl, hK ι _ _ ⟨_, rfl⟩ ?_⟩)
      · unfold execOp
        simp only [ho, g3, Sem.run_bind]
        have hst : (Instr.storeAt ty (.pointer (some ⟨r, o', none⟩)) (a.eval z)).run P w = .ok () w' := by
          unfold Instr.storeAt Instr.sureAddr storeVar
          have hsz : (a.eval z).cells.size = n := by have := hc.len; simp at this; omega
          simp only [Sem.run_bind, Sem.run_pure, Result.andThen_ok, run_size? P hn]
          rw [if_neg (by simp [hsz])]
          exact g4
        simp only [hst, Result.andThen_ok, Sem.run_pure]
      · rw [hk1]
        exact g5.bind0 hC hd

/-- One step. -/
theorem step_wp (hC : COk C) {i : Nat} {o : Oper} {io : IOp} (hio : cOper P C ops o = some io) (hi : ops[i]? = some o) (hst : Step1 P vs io env bx H env' bx' H') (h : RR P C E ι0 H0 W0 ι vs env bx H a w)
    {K : Act → World → Prop} {Q : Exit → Act → World → Prop} (hK : ∀ ι' a' w', (∃ y, a' = a.put o.dst y) → RR P C E ι0 H0 W0 ι' vs env' bx' H' a' w' → K a' w') : wpOp P ops Q i K a w := by
  obtain ⟨hdst, hg, hd, hk⟩ := cOper_spec hio
  unfold wpOp
  simp only [hi]
  have hnb : io.guard ≠ none → ∀ d, o.dst = some d → d < C.nt ∧ d ∉ C.B := fun hne d hdd => ⟨(hd d hdd).1, fun hm => hne ((hd d hdd).2 hm).1⟩
  cases hst with
  | skip hw =>
    have := want_rel h hg hw
    rw [if_neg (by simp [this])]
    refine hK ι _ _ ⟨_, rfl⟩ ?_
    rw [hdst]
    exact h.bind0 hC (hnb (by intro e; rw [e] at hw; simp [want] at hw))
  | exec hw hxs hok hx =>
    have := want_rel h hg hw
    rw [if_pos this]
    refine .inl ?_
    rcases hk with ⟨args, hk, ha⟩ | hbad
    case inr => rw [hbad] at hx; simp [iexec] at hx
    rw [← ha] at hk
    obtain ⟨hargs, hgood⟩ := cOp_ok hk
    have hr := cOpds_rel h hargs hxs
    rw [hdst] at hK
    by_cases hmk : (∃ d, o.dst = some d ∧ d ∈ C.B)
    · obtain ⟨d, hdd, hm⟩ := hmk
      rcases ((hd d hdd).2 hm).2 with ⟨t, ho⟩ | ⟨t, y, ho⟩
      · unfold cOp at hk
        rw [ho] at hk
        simp only [] at hk
        split at hk
        case h_2 => simp at hk
        rename_i z hz
        rw [hdd] at hk
        simp only [] at hk
        split at hk
        · rename_i j hj
          split at hk
          case isFalse => simp at hk
          rename_i hpos
          simp only [Option.some.injEq, Prod.mk.injEq] at hk
          obtain ⟨hk1, hk2⟩ := hk
          rw [← hk1] at hx
          rw [← hk2] at hxs
          simp only [evs, Option.some.injEq] at hxs
          subst hxs
          simp only [iexec, Option.some.injEq, Prod.mk.injEq] at hx
          obtain ⟨rfl, rfl, rfl⟩ := hx
          obtain ⟨i', zv, hi', hzv, he, hpl, hsz⟩ := zero_spec P hz
          have hjl : j < bx.length := by rw [h.nb]; exact (List.getElem?_eq_some_iff.1 (idxOf_get hj)).1
          have hR := h.newBox (e := t) hC (idxOf_get hj) (us := z) (v := zv) (by rw [he]; exact plains_rel hpl) hjl
          refine wp_left (n := .value (.pointer (some ⟨w.heap.size, 0, none⟩))) (w' := w.alloc (.cells zv.cells t)) ?_ (.inl ⟨_, rfl, hK ι _ _ ⟨_, rfl⟩ ?_⟩)
          · unfold execOp
            simp only [ho]
            refine run_v ?_
            unfold Instr.alloc
            simp only [Sem.run_bind, run_zeroValue P hi' hzv, Result.andThen_ok, run_newVar, Sem.run_pure]
          · rw [← hk1, hdd]
            exact hR
        · rename_i hj
          rw [List.idxOf?_eq_none_iff] at hj
          exact absurd hm hj
      · unfold cOp at hk
        rw [ho] at hk
        simp only [] at hk
        split at hk
        case h_2 => simp at hk
        rename_i n hn
        rw [hdd] at hk
        simp only [] at hk
        split at hk
        · rename_i j hj
          split at hk
          case isFalse => simp at hk
          rename_i hpos
          obtain ⟨hk1, hk2⟩ := cArgs2 hk
          rw [hk1] at hx hok
          rw [ho] at hr
          simp only [opl, List.map_cons, List.map_nil] at hr
          cases hr with
          | @cons x0 _ xs0 _ hr1 hr2 =>
          cases hr2
          cases x0 with
          | val v =>
            simp only [iexec] at hx
            split at hx
            case isFalse => simp at hx
            rename_i hl
            simp only [Option.some.injEq, Prod.mk.injEq] at hx
            obtain ⟨rfl, rfl, rfl⟩ := hx
            have hjl : j < bx.length := by rw [h.nb]; exact (List.getElem?_eq_some_iff.1 (idxOf_get hj)).1
            have hR := h.newBox (e := t) hC (idxOf_get hj) (us := cl v) (v := a.eval y) hr1.val.cl hjl
            refine wp_left (n := .value (.pointer (some ⟨w.heap.size, 0, none⟩))) (w' := w.alloc (.cells (a.eval y).cells t)) ?_ (.inl ⟨_, rfl, hK ι _ _ ⟨_, rfl⟩ ?_⟩)
            · unfold execOp
              simp only [ho]
              refine run_v ?_
              unfold Instr.box
              simp only [Sem.run_bind, run_newVar, Result.andThen_ok, Sem.run_pure]
            · rw [hk1, hdd]
              exact hR
          | adr t o => exact absurd (show (none : Res3) = _ from hx) (by simp)
          | tup t => exact absurd (show (none : Res3) = _ from hx) (by simp)
          | non => exact absurd (show (none : Res3) = _ from hx) (by simp)
        · rename_i hj
          rw [List.idxOf?_eq_none_iff] at hj
          exact absurd hm hj
    · have hd' : ∀ d, o.dst = some d → d < C.nt ∧ d ∉ C.B := fun d hdd => ⟨(hd d hdd).1, fun hm => hmk ⟨d, hdd, hm⟩⟩
      rcases iexec_adr hok hx with hna | hadr
      · by_cases hb : (∃ t z, io.k = .abx t z) ∨ (∃ t n, io.k = .bbx t n)
        · exfalso
          have key : ∃ d, o.dst = some d ∧ d ∈ C.B := by
            unfold cOp at hk
            split at hk <;> first
              | (obtain ⟨h1, _⟩ := cArgs2 hk; rcases hb with ⟨_, _, hb⟩ | ⟨_, _, hb⟩ <;> rw [hb] at h1 <;> simp at h1; done)
              | skip
            all_goals try (simp at hk; done)
            all_goals (repeat' split at hk)
            all_goals first
              | (rename_i hj _; exact ⟨_, ‹_›, List.mem_of_getElem? (idxOf_get hj)⟩)
              | (obtain ⟨h1, _⟩ := cArgs2 hk; rcases hb with ⟨_, _, hb⟩ | ⟨_, _, hb⟩ <;> rw [hb] at h1 <;> simp at h1; done)
              | (simp only [Option.some.injEq, Prod.mk.injEq] at hk; rcases hb with ⟨_, _, hb⟩ | ⟨_, _, hb⟩ <;> rw [hb] at hk <;> simp at hk; done)
              | (simp at hk; done)
              | skip
            all_goals
              unfold cCall at hk
              (repeat' split at hk) <;> first
                | (obtain ⟨h1, _⟩ := cArgs2 hk; rcases hb with ⟨_, _, hb⟩ | ⟨_, _, hb⟩ <;> rw [hb] at h1 <;> simp at h1; done)
                | (simp at hk; done)
          exact hmk key
        · have hnb1 : ∀ t z, io.k ≠ .abx t z := fun t z e => hb (.inl ⟨t, z, e⟩)
          have hnb2 : ∀ t n, io.k ≠ .bbx t n := fun t n e => hb (.inr ⟨t, n, e⟩)
          have hck : clrk io.k env = env := by
            cases hq : io.k <;> first | rfl | exact absurd hq (hnb1 _ _) | exact absurd hq (hnb2 _ _)
          rw [hck] at hK
          obtain ⟨hbx, hlen, n, w', ι', hrun, hsim, hext, hres⟩ := hgood ι H H' w a.eval bx bx' _ _ h.sim (noadr_rel hna hr) hx hnb1 hnb2
          subst hbx
          have hR := h.world hsim hext
          rcases hres with ⟨v, y, rfl, rfl, hv⟩ | ⟨rfl, rfl⟩
          · refine wp_left hrun (.inl ⟨y, rfl, hK ι' _ _ ⟨_, rfl⟩ ?_⟩)
            refine hR.bind1 hC hd' ?_
            cases v with
            | val v => exact hv
            | tup v => exact hv
            | adr => cases hv
            | non => trivial
          · exact wp_left hrun (.inr ⟨rfl, hK ι' _ _ ⟨_, rfl⟩ (hR.bind0 hC hd')⟩)
      · exact adr_wp hC hd' hk hr hx hadr h hK
  | @call xs args f r _ hw hxs hvs hkc hdet =>
    have := want_rel h hg hw
    rw [if_pos this]
    refine .inl ?_
    rcases hk with ⟨args', hk, ha⟩ | hbad
    case inr => rw [hbad] at hkc; simp at hkc
    rw [← ha] at hk
    obtain ⟨hargs, _⟩ := cOp_ok hk
    have hr := noadr_rel (allV_noadr hvs) (cOpds_rel h hargs hxs)
    have hv1 := allV_rel hr hvs
    rw [hkc] at hk
    obtain ⟨c, ho, hc⟩ : ∃ c, o.op = .call c ∧ c.callee = .value (.func f) := by
      unfold cOp at hk
      split at hk <;> first
        | (obtain ⟨h1, _⟩ := cArgs2 hk; simp at h1; done)
        | skip
      all_goals try (simp at hk; done)
      all_goals (repeat' split at hk)
      all_goals first
        | (obtain ⟨h1, _⟩ := cArgs2 hk; simp at h1; done)
        | (simp at hk; done)
        | skip
      all_goals
        unfold cCall at hk
        (repeat' split at hk) <;> first
          | (obtain ⟨h1, _⟩ := cArgs2 hk; simp only [IK.call.injEq] at h1; subst h1; exact ⟨_, ‹_›, ‹_›⟩)
          | (obtain ⟨h1, _⟩ := cArgs2 hk; simp at h1; done)
          | (simp at hk; done)
    rw [ho] at hv1
    simp only [opl, hc] at hv1
    have hd' : ∀ d, o.dst = some d → d < C.nt ∧ d ∉ C.B := fun d hdd => ⟨(hd d hdd).1, fun hm => by
      rcases ((hd d hdd).2 hm).2 with ⟨t, ho'⟩ | ⟨t, y, ho'⟩ <;> rw [ho] at ho' <;> simp at ho'⟩
    refine wp_call (run_call ho hc hdet.1 w) ?_
    rw [map_toArray]
    refine (hdet.2 ι w _ h.sim hv1).mono fun e w' he => ?_
    obtain ⟨v, ι', rfl, h1, h2, h3⟩ := he
    refine ⟨v, rfl, hK ι' _ _ ⟨_, rfl⟩ ?_⟩
    rw [hdst]
    refine (h.world h2 h3).bind1 hC hd' ?_
    cases hq : resEV r with
    | val v => rw [hq] at h1; exact h1
    | tup v => rw [hq] at h1; exact h1
    | adr => rw [hq] at h1; cases h1
    | non => trivial
  | @callv xs args cap f r _ hw hxs hvs hkc hdet =>
    have := want_rel h hg hw
    rw [if_pos this]
    refine .inl ?_
    rcases hk with ⟨args', hk, ha⟩ | hbad
    case inr => rw [hbad] at hkc; simp at hkc
    rw [← ha] at hk
    obtain ⟨hargs, _⟩ := cOp_ok hk
    have hr := noadr_rel (allV_noadr hvs) (cOpds_rel h hargs hxs)
    have hv1 := allV_rel hr hvs
    rw [hkc] at hk
    obtain ⟨c, t, ho, hc⟩ : ∃ c t, o.op = .call c ∧ c.callee = .value (.tmp t) := by
      unfold cOp at hk
      split at hk <;> first
        | (obtain ⟨h1, _⟩ := cArgs2 hk; simp at h1; done)
        | skip
      all_goals try (simp at hk; done)
      all_goals (repeat' split at hk)
      all_goals first
        | (obtain ⟨h1, _⟩ := cArgs2 hk; simp at h1; done)
        | (simp at hk; done)
        | skip
      all_goals
        unfold cCall at hk
        (repeat' split at hk) <;> first
          | (obtain ⟨h1, _⟩ := cArgs2 hk; first | (simp at h1; done) | exact ⟨_, _, ‹_›, ‹_›⟩)
          | (simp at hk; done)
    rw [ho] at hv1
    simp only [opl, hc, List.map_cons] at hv1
    cases hv1 with
    | cons hf hv1 =>
    obtain ⟨cap', hcap, hrel⟩ := hf.fn
    have hd' : ∀ d, o.dst = some d → d < C.nt ∧ d ∉ C.B := fun d hdd => ⟨(hd d hdd).1, fun hm => by
      rcases ((hd d hdd).2 hm).2 with ⟨t, ho'⟩ | ⟨t, y, ho'⟩ <;> rw [ho] at ho' <;> simp at ho'⟩
    refine wp_call (run_callv ho hc hcap hdet.1 w) ?_
    rw [map_toArray]
    have hall : LRel (V1Rel ι) (args ++ cap) (c.args.toList.map a.eval ++ cap') := hv1.append ((by simpa using hrel : LRel (PRel ι) cap cap').mono fun _ _ h => .cell (.ptr h))
    have hcalls := hdet.2 ι w _ h.sim hall
    simp only [← List.append_toArray] at hcalls
    refine hcalls.mono fun e w' he => ?_
    obtain ⟨v, ι', rfl, h1, h2, h3⟩ := he
    refine ⟨v, rfl, hK ι' _ _ ⟨_, rfl⟩ ?_⟩
    rw [hdst]
    refine (h.world h2 h3).bind1 hC hd' ?_
    cases hq : resEV r with
    | val v => rw [hq] at h1; exact h1
    | tup v => rw [hq] at h1; exact h1
    | adr => rw [hq] at h1; cases h1
    | non => trivial

end
end Go.Proofs.Ytpnbojehfngigaa.IM

/- The ideal machine: a region in the text's order; a region's begin and end. -/
namespace Go.Proofs.Ytpnbojehfngigaa.IM
open Go
set_option linter.unusedVariables false
set_option linter.unusedSimpArgs false

section
variable {P : Program} {C : Cfg} {ι0 ι ι' : Inj} {H0 : Heap} {E : Nat → Prop} {W0 w w' : World} {vs : List (Option Value)} {env env' : Env} {bx bx' : List (List Value)} {H H' : Heap} {a : Act} {ops : Array Oper}

theorem run_seq (hC : COk C) : ∀ (l : List Oper) (k : Nat) (ios : List IOp) (n : Nat) (env : Env) (bx : List (List Value)) (H : Heap) (ι : Inj) (a : Act) (w : World), cOpers P C ops l = some ios → ops.toList.drop k = l →
    Run1 P vs n ios env bx H env' bx' H' → RR P C E ι0 H0 W0 ι vs env bx H a w → ∀ {Q : Exit → Act → World → Prop}, (∀ ι' a' w', RR P C E ι0 H0 W0 ι' vs env' bx' H' a' w' → Q .normal a' w') →
    wpOps P ops Q (List.range' k l.length) a w
  | [], k, ios, n, env, bx, H, ι, a, w, hc, hl, hr, h, Q, hQ => by
    simp only [cOpers, Option.some.injEq] at hc; subst hc
    cases hr
    exact hQ ι a w h
  | o :: os, k, ios, n, env, bx, H, ι, a, w, hc, hl, hr, h, Q, hQ => by
    simp only [cOpers] at hc
    split at hc
    · rename_i x xs h1 h2
      simp only [Option.some.injEq] at hc; subst hc
      cases hr with
      | cons hs _ ht =>
        simp only [List.length_cons, List.range'_succ]
        rw [wpOps_cons]
        have hi : ops[k]? = some o := by
          have : (ops.toList.drop k)[0]? = some o := by rw [hl]; rfl
          rw [List.getElem?_drop] at this
          simpa using this
        refine step_wp hC h1 hi hs h fun ι' a' w' _ h' => ?_
        refine run_seq hC os (k + 1) xs _ _ _ _ ι' a' w' h2 ?_ ht h' hQ
        have := congrArg (List.drop 1) hl
        simpa [List.drop_drop, Nat.add_comm] using this
    · simp at hc

theorem RR.start (h : FR P C ι0 H0 W0 ι ⟨vs, bx, H⟩ a w) : RR P C noE ι0 H0 W0 ι vs [] bx H a w :=
  ⟨h.defers, h.size, h.sim, h.ext, fun d x hd => by simp [lk] at hd, fun k d x hk hx _ => h.vars k d x hk hx, h.nb, fun t d cs h1 h2 h3 => by
    obtain ⟨r, Cs, e, g1, g2, g3, g4, g5⟩ := h.box t d cs h1 h2 h3
    exact ⟨r, Cs, e, g1, g2, g3, g4, .inl g5⟩, h.apart⟩

/-! ### the region's end -/

theorem bind1_keys {env : Env} {dst : Option Nat} {x : Option EV} {d : Nat} {y : EV} (h : lk (bind1 env dst x) d = some y) : dst = some d ∨ ∃ z, lk env d = some z := by
  cases dst with
  | none => exact .inr ⟨y, h⟩
  | some e =>
    cases x with
    | none =>
      simp only [bind1, lk] at h
      split at h
      · rename_i he; exact .inl (by rw [he])
      · exact .inr ⟨y, h⟩
    | some x =>
      simp only [bind1, lk] at h
      split at h
      · rename_i he; exact .inl (by rw [he])
      · exact .inr ⟨y, h⟩

theorem clrk_keys {k : IK} {env : Env} {d : Nat} {y : EV} (h : lk (clrk k env) d = some y) : ∃ z, lk env d = some z := by
  cases k with
  | abx t z => simp only [clrk, lk_clr] at h; cases hq : lk env d with
    | none => rw [hq] at h; simp at h
    | some z => exact ⟨z, rfl⟩
  | bbx t z => simp only [clrk, lk_clr] at h; cases hq : lk env d with
    | none => rw [hq] at h; simp at h
    | some z => exact ⟨z, rfl⟩
  | _ => exact ⟨y, h⟩

theorem step1_keys {io : IOp} (h : Step1 P vs io env bx H env' bx' H') {d : Nat} {y : EV} (hl : lk env' d = some y) : io.dst = some d ∨ ∃ z, lk env d = some z := by
  cases h with
  | skip => exact bind1_keys hl
  | exec => rcases bind1_keys hl with h | ⟨z, h⟩
            · exact .inl h
            · exact .inr (clrk_keys h)
  | call => exact bind1_keys hl
  | callv => exact bind1_keys hl

theorem run1_keys : ∀ {ios : List IOp} {n : Nat} {env env' : Env} {bx bx' : List (List Value)} {H H' : Heap}, Run1 P vs n ios env bx H env' bx' H' → ∀ {d : Nat} {y : EV}, lk env' d = some y → (∃ io ∈ ios, io.dst = some d) ∨ ∃ z, lk env d = some z
  | [], n, env, env', bx, bx', H, H', h, d, y, hl => by cases h; exact .inr ⟨y, hl⟩
  | io :: ios, n, env, env', bx, bx', H, H', h, d, y, hl => by
    cases h with
    | cons hs _ ht =>
      rcases run1_keys ht hl with ⟨io', h1, h2⟩ | ⟨z, h1⟩
      · exact .inl ⟨io', by simp [h1], h2⟩
      · rcases step1_keys hs h1 with h2 | h2
        · exact .inl ⟨io, by simp, h2⟩
        · exact .inr h2

theorem cOpers_dst : ∀ {l : List Oper} {ios : List IOp}, cOpers P C ops l = some ios → ∀ {d : Nat}, (∃ io ∈ ios, io.dst = some d) → ∃ o ∈ l, o.dst = some d
  | [], ios, h, d, hd => by simp only [cOpers, Option.some.injEq] at h; subst h; simp at hd
  | o :: os, ios, h, d, ⟨io, h1, h2⟩ => by
    simp only [cOpers] at h
    split at h
    · rename_i x xs g1 g2
      simp only [Option.some.injEq] at h; subst h
      simp only [List.mem_cons] at h1
      rcases h1 with rfl | h1
      · exact ⟨o, by simp, by rw [← (cOper_spec g1).1]; exact h2⟩
      · obtain ⟨o', g3, g4⟩ := cOpers_dst g2 ⟨io, h1, h2⟩
        exact ⟨o', by simp [g3], g4⟩
    · simp at h

theorem keep_spec : ∀ {l : List Oper} {d k : Nat}, (∃ o ∈ l, o.dst = some d) → C.K.idxOf? d = some k → (d, k) ∈ keepOf C l
  | [], d, k, ⟨o, h, _⟩, _ => by simp at h
  | o :: os, d, k, ⟨o', h1, h2⟩, hk => by
    simp only [keepOf]
    simp only [List.mem_cons] at h1
    rcases h1 with rfl | h1
    · rw [h2]; simp only [hk]; simp
    · have ih := keep_spec ⟨o', h1, h2⟩ hk
      split
      · split
        · simp [ih]
        · exact ih
      · exact ih

theorem keep_idx : ∀ {l : List Oper} {d k : Nat}, (d, k) ∈ keepOf C l → C.K.idxOf? d = some k
  | [], d, k, h => by simp [keepOf] at h
  | o :: os, d, k, h => by
    simp only [keepOf] at h
    split at h
    · split at h
      · rename_i k' hk
        simp only [List.mem_cons, Prod.mk.injEq] at h
        rcases h with ⟨rfl, rfl⟩ | h
        · exact hk
        · exact keep_idx h
      · exact keep_idx h
    · exact keep_idx h

/-- What the kept values are behind a region. -/
theorem fin_spec : ∀ {ks : List (Nat × Nat)} {vs vs' : List (Option Value)}, fin env ks vs = some vs' → vs'.length = vs.length ∧
    ∀ k x, vs'[k]? = some (some x) → (∃ d, (d, k) ∈ ks ∧ lk env d = some (.val x)) ∨ ((∀ d, (d, k) ∉ ks) ∧ vs[k]? = some (some x))
  | [], vs, vs', h => by
    simp only [fin, Option.some.injEq] at h; subst h
    exact ⟨rfl, fun k x hx => .inr ⟨fun d => by simp, hx⟩⟩
  | (d, j) :: ks, vs, vs', h => by
    simp only [fin] at h
    have go : ∀ (z : Option Value), (∀ x, z = some x → lk env d = some (.val x)) → fin env ks (vs.set j z) = some vs' → vs'.length = vs.length ∧
        ∀ k x, vs'[k]? = some (some x) → (∃ d', (d', k) ∈ (d, j) :: ks ∧ lk env d' = some (.val x)) ∨ ((∀ d', (d', k) ∉ (d, j) :: ks) ∧ vs[k]? = some (some x)) := by
      intro z hz hf
      obtain ⟨h1, h2⟩ := fin_spec hf
      refine ⟨by rw [h1]; simp, fun k x hx => ?_⟩
      rcases h2 k x hx with ⟨d', h3, h4⟩ | ⟨h3, h4⟩
      · exact .inl ⟨d', by simp [h3], h4⟩
      · by_cases hjk : j = k
        · subst hjk
          have hlt : j < vs.length := by have := (List.getElem?_eq_some_iff.1 h4).1; simpa using this
          rw [List.getElem?_set_self hlt] at h4
          simp only [Option.some.injEq] at h4
          exact .inl ⟨d, by simp, hz x h4⟩
        · rw [List.getElem?_set_ne hjk] at h4
          exact .inr ⟨fun d' hm => by
            simp only [List.mem_cons, Prod.mk.injEq] at hm
            rcases hm with ⟨_, rfl⟩ | hm
            · exact hjk rfl
            · exact h3 d' hm, h4⟩
    split at h
    · rename_i x hx
      exact go (some x) (fun y hy => by simp only [Option.some.injEq] at hy; subst hy; exact hx) h
    · exact go none (fun y hy => by simp at hy) h
    · simp at h

theorem idxOf_self (hC : COk C) {k d : Nat} (h : C.K[k]? = some d) : C.K.idxOf? d = some k := by
  have hnd := (List.nodup_append.1 hC.nd).1
  rw [List.idxOf?_eq_some_iff]
  obtain ⟨h1, h2⟩ := List.getElem?_eq_some_iff.1 h
  refine ⟨h1, by simp [h2], fun j hj => ?_⟩
  intro e
  have e : C.K[j] = d := by simpa using e
  have := (List.getElem_inj hnd).1 (e.trans h2.symm)
  omega

theorem RR.done (hC : COk C) {l : List Oper} (hkeys : ∀ {d : Nat} {y : EV}, lk env d = some y → ∃ o ∈ l, o.dst = some d) {vs' : List (Option Value)} (hf : fin env (keepOf C l) vs = some vs') (hnv : vs.length = C.K.length)
    (h : RR P C noE ι0 H0 W0 ι vs env bx H a w) : FR P C ι0 H0 W0 ι ⟨vs', bx, H⟩ a w := by
  obtain ⟨h1, h2⟩ := fin_spec hf
  refine ⟨h.defers, h.size, h.sim, h.ext, fun k d x hk hx => ?_, by rw [h1]; exact hnv, h.nb, fun t d cs h1 h2 h3 => by
    obtain ⟨r, Cs, e, g1, g2, g3, g4, g5⟩ := h.box t d cs h1 h2 h3
    exact ⟨r, Cs, e, g1, g2, g3, g4, g5.resolve_right (fun h => h)⟩, h.apart⟩
  have hid := idxOf_self hC hk
  rcases h2 k x hx with ⟨d', h3, h4⟩ | ⟨h3, h4⟩
  · have hid' := keep_idx h3
    have : d' = d := by have := idxOf_get hid'; rw [hk] at this; simpa using this.symm
    subst this
    obtain ⟨y, g1, g2⟩ := h.envr d' _ h4
    exact ⟨y, g1, VRel.v1 g2⟩
  · cases hq : lk env d with
    | none => exact h.vars k d x hk h4 hq
    | some y => exact absurd (keep_spec (hkeys hq) hid) (h3 d)

theorem cReg_spec {draw : Bool} {r : List IOp × List (Nat × Nat) × Option (Nat × List Nat)} (h : cReg P C ops draw = some r) : cOpers P C ops ops.toList = some r.1 ∧ r.2.1 = keepOf C ops.toList ∧
    ((draw = false ∧ r.2.2 = none) ∨ (draw = true ∧ ∃ n late, r.2.2 = some (n, late) ∧ orderOk ops.toList r.1 n late = true)) := by
  unfold cReg at h
  split at h
  · rename_i ios hi
    cases draw with
    | false =>
      simp only [Bool.false_eq_true, if_false, Option.some.injEq] at h; subst h
      exact ⟨hi, rfl, .inl ⟨rfl, rfl⟩⟩
    | true =>
      simp only [if_true] at h
      split at h
      · rename_i ho
        simp only [Option.some.injEq] at h; subst h
        exact ⟨hi, rfl, .inr ⟨rfl, _, _, rfl, ho⟩⟩
      · simp at h
  · simp at h

end
end Go.Proofs.Ytpnbojehfngigaa.IM

/- The ideal machine: operations that touch nothing that was there, in any order. -/
namespace Go.Proofs.Ytpnbojehfngigaa.IM
open Go
set_option linter.unusedVariables false
set_option linter.unusedSimpArgs false

/-- Places, of the first blocks alone. -/
def upto (ι : Inj) (k : Nat) : Inj := fun b => if b < k then ι b else none

theorem upto_some {ι : Inj} {k b : Nat} {L : Loc} : upto ι k b = some L ↔ b < k ∧ ι b = some L := by
  unfold upto; split <;> simp [*]

theorem upto_sub {ι : Inj} {k m : Nat} (h : k ≤ m) : Sub (upto ι k) (upto ι m) := fun b L hb => by
  rw [upto_some] at hb ⊢; exact ⟨by omega, hb.2⟩

theorem upto_le {ι : Inj} {k : Nat} : Sub (upto ι k) ι := fun b L hb => (upto_some.1 hb).2

theorem upto_all {ι : Inj} {k : Nat} (h : ∀ b L, ι b = some L → b < k) : upto ι k = ι := by
  funext b
  unfold upto
  split
  · rfl
  · cases hb : ι b with
    | none => rfl
    | some L => exact absurd (h b L hb) ‹_›

theorem upto_mono {ι ι' : Inj} (h : Sub ι ι') (k : Nat) : Sub (upto ι k) (upto ι' k) := fun b L hb => by
  rw [upto_some] at hb ⊢; exact ⟨hb.1, h b L hb.2⟩

theorem PRel.restrict {κ ι : Inj} (hs : Sub κ ι) {c x0 x : Value} (h0 : PRel κ c x0) (h : PRel ι c x) : PRel κ c x := by
  cases h0 with
  | nul => cases h; exact .nul
  | ptr h1 => cases h with
    | ptr h2 =>
      have := hs _ _ h1
      rw [h2] at this; simp only [Option.some.injEq] at this; subst this
      exact .ptr h1

theorem LRel.restrict {α β : Type} {R S T : α → β → Prop} (hr : ∀ c x0 x, R c x0 → S c x → T c x) {xs : List α} {ys zs : List β} (h : LRel R xs ys) (k : LRel S xs zs) : LRel T xs zs := by
  induction h generalizing zs with
  | nil => cases k; exact .nil
  | cons h1 _ ih => cases k with
    | cons k1 k2 => exact .cons (hr _ _ _ h1 k1) (ih k2)

theorem CRel.restrict {κ ι : Inj} (hs : Sub κ ι) {c x0 x : Value} (h0 : CRel κ c x0) (h : CRel ι c x) : CRel κ c x := by
  cases h0 with
  | bool b => cases h with
    | bool => exact .bool b
    | ptr h => cases h
  | int k n => cases h with
    | int => exact .int k n
    | ptr h => cases h
  | str s => cases h with
    | str => exact .str s
    | ptr h => cases h
  | ptr h1 => cases h1 with
    | nul => cases h with
      | ptr h2 => exact .ptr (PRel.restrict hs .nul h2)
    | ptr h1 => cases h with
      | ptr h2 => exact .ptr (PRel.restrict hs (.ptr h1) h2)
  | snil => cases h with
    | snil => exact .snil
    | ptr h => cases h
  | sl h1 a1 b1 c1 d1 => cases h with
    | sl h2 a b c d =>
      have := hs _ _ h1
      rw [h2] at this; simp only [Option.some.injEq] at this; subst this
      exact .sl h1 a b c d
    | ptr h => cases h
  | @fn f xs ys h1 =>
    generalize hc : Value.func (.func f) #[] xs.toArray = cc at h
    cases h with
    | @fn f' xs' ys' h2 =>
      simp only [Value.func.injEq, Fn.func.injEq, true_and] at hc
      obtain ⟨rfl, hx⟩ := hc
      have hx : xs = xs' := by simpa using hx
      subst hx
      exact .fn (LRel.restrict (R := PRel κ) (S := PRel ι) (T := PRel κ) (fun _ _ _ h k => PRel.restrict hs h k) h1 h2)
    | ptr h2 => cases h2 <;> simp at hc
    | _ => simp at hc

theorem BlkAt.restrict {κ ι : Inj} (hs : Sub κ ι) {w0 w : World} {L : Loc} {B : Blk} (h0 : BlkAt κ w0 L B) (h : BlkAt ι w L B) : BlkAt κ w L B := by
  obtain ⟨⟨C0, e0, fz0, g1, g2, g3, g4⟩, _⟩ := h0
  obtain ⟨⟨C, e, fz, h1, h2, h3, h4⟩, h5, h6, h7⟩ := h
  refine ⟨⟨C, e, fz, h1, h2, h3, fun i c hc => ?_⟩, h5, h6, h7⟩
  obtain ⟨x, hx, hr⟩ := h4 i c hc
  obtain ⟨x0, _, hr0⟩ := g4 i c hc
  exact ⟨x, hx, CRel.restrict hs hr0 hr⟩

theorem Gent.get {H H' : Heap} (h : Gent H H') {b : Nat} {B : Blk} (hb : H.get b = some B) : H'.get b = some B := by
  rw [h.2 b (Heap.get_lt hb)]; exact hb

/-- One operation that touches nothing that was there, where others, behind it in the text, have come already. -/
theorem gentle_step {E : Nat → Prop} {ι ι' : Inj} {n v v' : Nat} {Hs : Nat → Heap} {w w' : World}
    (hg : ∀ i j, i ≤ j → j ≤ n → Gent (Hs i) (Hs j)) (hs : ∀ i, i ≤ n → Sim (upto ι (Hs i).length) (Hs i) w) (hd : ∀ b L, ι b = some L → b < (Hs n).length)
    (hv : v ≤ v') (hv1 : v' ≤ v + 1) (hn : v' ≤ n) (hfree : ∀ b, (Hs v).length ≤ b → b < (Hs v').length → ι b = none)
    (hs' : Sim ι' (Hs v') w') (he : Ext E (upto ι (Hs v).length) ι' (Hs v) (Hs v') w w') (hE : ∀ r b L, E r → ι b = some L → L.r ≠ r)
    {ι2 : Inj} (h2 : ι2 = fun b => if b < (Hs v').length then ι' b else ι b) :
    (∀ i, i ≤ n → Sim (upto ι2 (Hs i).length) (Hs i) w') ∧ (∀ b L, ι2 b = some L → b < (Hs n).length) ∧ Sub ι ι2 ∧ upto ι2 (Hs v').length = ι' ∧
      (∀ b L, ι2 b = some L → ι b = some L ∨ ((Hs v).length ≤ b ∧ b < (Hs v').length ∧ ι' b = some L)) := by
  have hlv : (Hs v).length ≤ (Hs v').length := he.len
  have hln : (Hs v').length ≤ (Hs n).length := (hg v' n hn (Nat.le_refl _)).1
  have hold : ∀ b, b < (Hs v).length → ι' b = ι b := fun b hb => by rw [he.old b hb]; unfold upto; rw [if_pos hb]
  have hlow : ∀ b, b < (Hs v').length → ι2 b = ι' b := fun b hb => by rw [h2]; simp only; rw [if_pos hb]
  have hhigh : ∀ b, ¬ b < (Hs v').length → ι2 b = ι b := fun b hb => by rw [h2]; simp only; rw [if_neg hb]
  have hsub : Sub ι ι2 := fun b L hb => by
    by_cases h1 : b < (Hs v).length
    · rw [hlow b (by omega), hold b h1]; exact hb
    · by_cases h3 : b < (Hs v').length
      · rw [hfree b (by omega) h3] at hb; simp at hb
      · rw [hhigh b h3]; exact hb
  have hback : ∀ b L, ι2 b = some L → ι b = some L ∨ ((Hs v).length ≤ b ∧ b < (Hs v').length ∧ ι' b = some L) := fun b L hb => by
    by_cases h1 : b < (Hs v).length
    · rw [hlow b (by omega), hold b h1] at hb; exact .inl hb
    · by_cases h3 : b < (Hs v').length
      · rw [hlow b h3] at hb; exact .inr ⟨by omega, h3, hb⟩
      · rw [hhigh b h3] at hb; exact .inl hb
  have hdom2 : ∀ b L, ι2 b = some L → b < (Hs n).length := fun b L hb => by
    rcases hback b L hb with h1 | ⟨_, h1, _⟩
    · exact hd b L h1
    · omega
  have hup : upto ι2 (Hs v').length = ι' := by
    funext b
    unfold upto
    split
    · exact hlow b ‹_›
    · cases hb : ι' b with
      | none => rfl
      | some L => exact absurd (hs'.dom b L hb).1 ‹_›
  have hSn := hs n (Nat.le_refl _)
  have halive : ∀ i b B, i ≤ n → (Hs i).get b = some B → ∀ j, j ≤ n → b < (Hs j).length → (Hs j).get b = some B := by
    intro i b B hi hb j hj hlt
    have h1 := (hg i n hi (Nat.le_refl _)).get hb
    have h3 := (hg j n hj (Nat.le_refl _)).2 b hlt
    rw [← h3]; exact h1
  have hdomn : ∀ b L, ι b = some L → L.r < w.heap.size := fun b L hb => (hSn.dom b L (upto_some.2 ⟨hd b L hb, hb⟩)).2
  refine ⟨fun i hi => ?_, hdom2, hsub, hup, hback⟩
  have hSi := hs i hi
  refine ⟨fun b L hb => ?_, fun b L B hb hB => ?_, fun b1 b2 L1 L2 B1 B2 hb1 hb2 hB1 hB2 hr => ?_⟩
  · rw [upto_some] at hb
    refine ⟨hb.1, ?_⟩
    rcases hback b L hb.2 with h1 | ⟨_, h1, h3⟩
    · exact Nat.lt_of_lt_of_le (hdomn b L h1) he.size
    · exact (hs'.dom b L h3).2
  · rw [upto_some] at hb
    obtain ⟨hbi, hb⟩ := hb
    by_cases h1 : b < (Hs v').length
    · have hB' := halive i b B hi hB v' hn h1
      have hb' : ι' b = some L := by rw [← hlow b h1]; exact hb
      have hblk := hs'.blk b L B hb' hB'
      by_cases h3 : v' ≤ i
      · refine hblk.mono fun b3 L3 h4 => upto_some.2 ?_
        have h5 := (hs'.dom b3 L3 h4).1
        exact ⟨by have := (hg v' i h3 hi).1; omega, by rw [hlow b3 h5]; exact h4⟩
      · have hiv : i ≤ v := by omega
        have hlen : (Hs i).length ≤ (Hs v).length := (hg i v hiv (by omega)).1
        have hbι : ι b = some L := by rw [← hold b (by omega)]; exact hb'
        have e : upto ι2 (Hs i).length = upto ι (Hs i).length := by
          funext b3
          unfold upto
          split
          · rw [hlow b3 (by omega), hold b3 (by omega)]
          · rfl
        rw [e]
        refine BlkAt.restrict (ι := ι') (fun b3 L3 h4 => ?_) (hSi.blk b L B (upto_some.2 ⟨hbi, hbι⟩) hB) hblk
        rw [upto_some] at h4
        rw [hold b3 (by omega)]; exact h4.2
    · have hbι : ι b = some L := by rw [← hhigh b h1]; exact hb
      have hblk := hSi.blk b L B (upto_some.2 ⟨hbi, hbι⟩) hB
      refine (hblk.of_heap (he.keep L.r (hdomn b L hbι) (fun b0 L0 hb0 hL0 ha e => ?_) (fun h => hE _ b L h hbι rfl))).mono (upto_mono hsub _)
      rw [upto_some] at hL0
      cases hq : (Hs v).get b0 with
      | none => obtain ⟨B0, q, _⟩ := ha; rw [hq] at q; simp at q
      | some B0 =>
        have hb0n := halive v b0 B0 (by omega) hq n (Nat.le_refl _) (by have := (hg v n (by omega) (Nat.le_refl _)).1; omega)
        have hbn := halive i b B hi hB n (Nat.le_refl _) (hd b L hbι)
        have := hSn.inj b0 b L0 L B0 B (upto_some.2 ⟨hd b0 L0 hL0.2, hL0.2⟩) (upto_some.2 ⟨hd b L hbι, hbι⟩) hb0n hbn e
        omega
  · rw [upto_some] at hb1 hb2
    obtain ⟨hi1, hb1⟩ := hb1
    obtain ⟨hi2, hb2⟩ := hb2
    have mixed : ∀ b1 b2 L1 L2 B1 B2, ι2 b1 = some L1 → ι2 b2 = some L2 → (Hs i).get b1 = some B1 → (Hs i).get b2 = some B2 → L1.r = L2.r → b1 < (Hs v').length → ¬ b2 < (Hs v').length → b1 = b2 := by
      intro b1 b2 L1 L2 B1 B2 hb1 hb2 hB1 hB2 hr h1 h3
      have hb2' : ι b2 = some L2 := by rw [← hhigh b2 h3]; exact hb2
      have hB2n := halive i b2 B2 hi hB2 n (Nat.le_refl _) (hd b2 L2 hb2')
      rcases hback b1 L1 hb1 with h4 | ⟨h4, _, h5⟩
      · have hB1n := halive i b1 B1 hi hB1 n (Nat.le_refl _) (hd b1 L1 h4)
        exact hSn.inj b1 b2 L1 L2 B1 B2 (upto_some.2 ⟨hd b1 L1 h4, h4⟩) (upto_some.2 ⟨hd b2 L2 hb2', hb2'⟩) hB1n hB2n hr
      · rcases he.new b1 L1 h4 h5 with h6 | ⟨b0, L0, h6, h7, h8, h9⟩
        · have := hdomn b2 L2 hb2'; omega
        · rw [upto_some] at h7
          cases hq : (Hs v).get b0 with
          | none => obtain ⟨B0, q, _⟩ := h8; rw [hq] at q; simp at q
          | some B0 =>
            have hb0n := halive v b0 B0 (by omega) hq n (Nat.le_refl _) (hd b0 L0 h7.2)
            have := hSn.inj b0 b2 L0 L2 B0 B2 (upto_some.2 ⟨hd b0 L0 h7.2, h7.2⟩) (upto_some.2 ⟨hd b2 L2 hb2', hb2'⟩) hb0n hB2n (h9.trans hr)
            omega
    by_cases h1 : b1 < (Hs v').length
    · by_cases h3 : b2 < (Hs v').length
      · exact hs'.inj b1 b2 L1 L2 B1 B2 (by rw [← hlow b1 h1]; exact hb1) (by rw [← hlow b2 h3]; exact hb2) (halive i b1 B1 hi hB1 v' hn h1) (halive i b2 B2 hi hB2 v' hn h3) hr
      · exact mixed b1 b2 L1 L2 B1 B2 hb1 hb2 hB1 hB2 hr h1 h3
    · by_cases h3 : b2 < (Hs v').length
      · exact (mixed b2 b1 L2 L1 B2 B1 hb2 hb1 hB2 hB1 hr.symm h3 h1).symm
      · have hb1' : ι b1 = some L1 := by rw [← hhigh b1 h1]; exact hb1
        have hb2' : ι b2 = some L2 := by rw [← hhigh b2 h3]; exact hb2
        exact hSi.inj b1 b2 L1 L2 B1 B2 (upto_some.2 ⟨hi1, hb1'⟩) (upto_some.2 ⟨hi2, hb2'⟩) hB1 hB2 hr

end Go.Proofs.Ytpnbojehfngigaa.IM
