/- An evaluator of the model's code over an abstract heap: blocks' numbers, capacities and orders are hidden. Definitions alone; nothing is claimed here. -/
import Derived.Orders
import Derived.Below
import Derived.KernelRfl
import Derived.Laws.Append
import Derived.Laws.Sem
namespace Go.Proofs.YtdpielghjaehbaaGreat.Ev

/-- A cell's value. 'ptr i off': a cell of the object i. 'sl i len': the slice of the object i from its first cell on. 'mref i': a map. 'clo f i': the closure of f over the variable i. 'raw v': a value of the memory that was there before. -/
inductive AC where
  | undef
  | bool (b : Bool)
  | int (k : IntKind) (n : Int)
  | str (s : List UInt8)
  | ptr (i off : Nat)
  | sl0
  | sl (i len : Nat)
  | mref (i : Nat)
  | mnil
  | clo (f i : Nat)
  | raw (v : Value)

/-- A slot's value. -/
inductive AV where
  | c (x : AC)
  | agg (l : List AC)
  | tup (l : List AC)

/-- An object: a row of cells with the type of its elements; a set of numbers, each with its stamp; a map from texts and numbers to maps; a walk through a map; a walk through a text. -/
inductive AObj where
  | cells (elem : Nat) (l : List AC)
  | pm (ks : List (Int × Nat)) (clock : Nat)
  | km (es : List (List UInt8 × Int × Nat × Nat)) (clock : Nat)
  | mit (m since : Nat) (was : List Nat) (stepped : Nat)
  | sit (s : List UInt8) (pos : Nat)

abbrev Seg := List (Nat × Option AObj)

def look : Seg → Nat → Option (Option AObj)
  | [], _ => none
  | (j, o) :: r, i => if j == i then some o else look r i

/-- The object i: the newest word on it counts. -/
def get : List Seg → Nat → Option AObj
  | [], _ => none
  | s :: r, i => match look s i with
    | some o => o
    | none => get r i

structure Slots where
  nt : Nat
  l : List (Nat × AV)

def sfind : List (Nat × AV) → Nat → AV
  | [], _ => .c .undef
  | (j, v) :: r, i => if j == i then v else sfind r i

def Slots.get (s : Slots) (t : Nat) : AV := sfind s.l t

def Slots.put (s : Slots) (dst : Option Nat) (v : AV) : Slots :=
  match dst with
  | some d => if d < s.nt then { s with l := (d, v) :: s.l } else s
  | none => s

structure TyRow where
  size : Nat
  bytes : Nat
  desc : TypeDesc
  zero : List AC
  zagg : Bool

structure Env where
  fns : List (Nat × Func)
  tys : List (Nat × TyRow)
  mem : Nat → Nat → Option Value

def assoc {α : Type} : List (Nat × α) → Nat → Option α
  | [], _ => none
  | (j, v) :: r, i => if j == i then some v else assoc r i

def absV : Value → Option AV
  | .bool b => some (.c (.bool b))
  | .int k n => some (.c (.int k n))
  | .string s => some (.c (.str s.data.toList))
  | .slice none 0 0 => some (.c .sl0)
  | .map none => some (.c .mnil)
  | .agg l => if l.size = 0 then some (.agg []) else none
  | .nilFunc => some (.c (.raw .nilFunc))
  | _ => none

/-- A cell of the memory that was there before. -/
def lift : Value → AC
  | .bool b => .bool b
  | .int k n => .int k n
  | .string s => .str s.data.toList
  | .slice none 0 0 => .sl0
  | .map none => .mnil
  | v => .raw v

def val (s : Slots) : Operand → Option AV
  | .tmp t => some (s.get t)
  | .const v => absV v
  | _ => none

def cellsOf : AV → List AC
  | .c x => [x]
  | .agg l => l
  | .tup _ => []

def AC.isCell : AC → Bool
  | .undef => false
  | .raw v => v.oneCell'
  | _ => true

def cellsGood (l : List AC) : Bool := l.all AC.isCell

/-- 'part' laid over 'l' from 'off' on. -/
def splice (l : List AC) (off : Nat) (part : List AC) : List AC := l.take off ++ part ++ l.drop (off + part.length)

def spliceAll (place : Nat → Option (Nat × Nat)) : List AC → List (Nat × List AC) → Option (List AC)
  | l, [] => some l
  | l, (i, p) :: r => match place i with
    | none => none
    | some (off, size) => if p.length == size && decide (off + p.length ≤ l.length) then spliceAll place (splice l off p) r else none

def vals (s : Slots) : List Operand → Option (List AV)
  | [] => some []
  | x :: r => match val s x, vals s r with
    | some v, some vs => some (v :: vs)
    | _, _ => none

def partsOf (s : Slots) : List (Nat × Operand) → Option (List (Nat × List AC))
  | [] => some []
  | (i, x) :: r => match val s x, partsOf s r with
    | some (.c v), some vs => if v.isCell then some ((i, [v]) :: vs) else none
    | some (.agg l), some vs => if cellsGood l then some ((i, l) :: vs) else none
    | _, _ => none

def isAggV : AV → Bool
  | .agg _ => true
  | _ => false

def isAggD : TypeDesc → Bool
  | .struct _ | .array _ _ => true
  | _ => false

def places (E : Env) (fields : Array Field) (i : Nat) : Option (Nat × Nat) :=
  match fields.toList[i]? with
  | some f => match assoc E.tys f.type with
    | some r => some (f.offset, r.size)
    | none => none
  | none => none

def allFields (E : Env) (fields : Array Field) : Bool := fields.toList.all fun f => (assoc E.tys f.type).isSome

def cmpInt (op : BinOp) (a b : Int) : Option AC :=
  match op with
  | .eql => some (.bool (a == b))
  | .neq => some (.bool (a != b))
  | .lss => some (.bool (decide (a < b)))
  | .leq => some (.bool (decide (a ≤ b)))
  | .gtr => some (.bool (decide (a > b)))
  | .geq => some (.bool (decide (a ≥ b)))
  | _ => none

def sameBytes : List UInt8 → List UInt8 → Bool
  | [], [] => true
  | a :: x, b :: y => a.toNat == b.toNat && sameBytes x y
  | _, _ => false

/-- Is a type a struct of a text and a number, one behind the other? -/
def isKeyT (E : Env) (t : Nat) : Bool :=
  match assoc E.tys t with
  | some r => match r.desc with
    | .struct fs => match fs.toList with
      | [f, g] => f.offset == 0 && g.offset == 1 && f.name != "_" && g.name != "_" && (match assoc E.tys f.type, assoc E.tys g.type with
        | some { desc := .string, size := 1, .. }, some { desc := .int .i64, size := 1, .. } => true
        | _, _ => false)
      | _ => false
    | _ => false
  | none => false

def evBin (E : Env) (op : BinOp) (ty : Nat) (x y : AV) : Option AC :=
  match x, y with
  | .c (.int k a), .c (.int k' b) =>
    if k.bits == k'.bits && k.signed == k'.signed then
      match op with
      | .add => some (.int k (k.wrap (a + b)))
      | .sub => some (.int k (k.wrap (a - b)))
      | .mul => some (.int k (k.wrap (a * b)))
      | .quo => if b == 0 then none else some (.int k (k.wrap (a.tdiv b)))
      | .rem => if b == 0 then none else some (.int k (a.tmod b))
      | .or => some (.int k (k.wrap ((BitVec.ofInt k.bits a ||| BitVec.ofInt k.bits b).toNat)))
      | .and => some (.int k (k.wrap ((BitVec.ofInt k.bits a &&& BitVec.ofInt k.bits b).toNat)))
      | .shr => if 0 ≤ b ∧ b ≤ 8 then some (.int k (a / 2 ^ b.toNat)) else none
      | _ => cmpInt op a b
    else none
  | .c (.str a), .c (.str b) =>
    match op with
    | .add => if a.length + b.length < 1000000 then some (.str (a ++ b)) else none
    | .eql => some (.bool (sameBytes a b))
    | .neq => some (.bool (!sameBytes a b))
    | _ => none
  | .c (.bool a), .c (.bool b) =>
    match assoc E.tys ty with
    | some { desc := .bool, .. } => match op with
      | .eql => some (.bool (a == b))
      | .neq => some (.bool (!(a == b)))
      | _ => none
    | _ => none
  | .c (.mref _), .c .mnil => match assoc E.tys ty with
    | some { desc := .map _ _, .. } => match op with
      | .eql => some (.bool false)
      | _ => none
    | _ => none
  | _, _ => none

def memCells (E : Env) (b off : Nat) : Nat → Option (List AC)
  | 0 => some []
  | k + 1 => match E.mem b off, memCells E b (off + 1) k with
    | some v, some l => some (lift v :: l)
    | _, _ => none

/-- The place of a text and a number among a map's keys. -/
def kfind (nm : List UInt8) (at_ : Int) : List (List UInt8 × Int × Nat × Nat) → Option Nat
  | [] => none
  | (m, a, i, _) :: r => if sameBytes m nm && a == at_ then some i else kfind nm at_ r

def pfind (k : Int) : List (Int × Nat) → Bool
  | [] => false
  | (j, _) :: r => j == k || pfind k r

def bytesOfCells : List AC → Option (List UInt8)
  | [] => some []
  | .int .u8 n :: r => match bytesOfCells r with
    | some l => some (UInt8.ofNat n.toNat :: l)
    | none => none
  | _ :: _ => none

def evConv (E : Env) (H : List Seg) (src dst : Nat) (x : AV) : Option AC :=
  match assoc E.tys src, assoc E.tys dst with
  | some rs, some rd =>
    match rd.desc, x with
    | .int k, .c (.int _ n) => some (.int k (k.wrap n))
    | .string, .c (.sl i len) => match rs.desc with
      | .slice e => match assoc E.tys e with
        | some { desc := .int .u8, .. } => match get H i with
          | some (.cells _ cs) => if len ≤ cs.length then (match bytesOfCells (cs.take len) with
            | some l => some (.str l)
            | none => none) else none
          | _ => none
        | _ => none
      | _ => none
    | .string, .c .sl0 => match rs.desc with
      | .slice e => match assoc E.tys e with
        | some { desc := .int .u8, .. } => some (.str [])
        | _ => none
      | _ => none
    | .string, .c (.int _ n) => some (.str (Utf8.encode n).data.toList)
    | _, _ => none
  | _, _ => none

def maxInts : IntKind → Int → List AV → Option Int
  | _, x, [] => some x
  | k, x, .c (.int _ y) :: r => maxInts k (if y > x then y else x) r
  | _, _, _ => none

def minInts : IntKind → Int → List AV → Option Int
  | _, x, [] => some x
  | k, x, .c (.int _ y) :: r => minInts k (if y < x then y else x) r
  | _, _, _ => none

abbrev CallF := Nat → List AV → List Seg → Seg → Nat → Option (AV × Seg × Nat)

/-- append(x, y...) of slices of elements e. -/
def evAppend (e : Nat) (re : TyRow) (x y : AC) (B : List Seg) (d : Seg) (n : Nat) : Option (AV × Seg × Nat) :=
  if re.size == 0 || re.size > 1000 || re.bytes > 1000 || re.zero.length != re.size then none else
  match y with
  | .sl0 => match x with
    | .sl0 => some (.c .sl0, d, n)
    | .sl i len => match get (d :: B) i with
      | some (.cells ei ci) => if ei == e && ci.length == len * re.size then some (.c (.sl i len), d, n) else none
      | _ => none
    | _ => none
  | .sl j m => match get (d :: B) j with
    | some (.cells _ cj) => if cj.length < m * re.size || m > 100000 || m == 0 || !cellsGood (cj.take (m * re.size)) then none else
      match x with
      | .sl0 => some (.c (.sl n m), (n, some (.cells e (cj.take (m * re.size)))) :: d, n + 1)
      | .sl i len => match get (d :: B) i with
        | some (.cells ei ci) => if i == j || ei != e || ci.length != len * re.size || len > 100000 then none else
          some (.c (.sl n (len + m)), (n, some (.cells e (ci ++ cj.take (m * re.size)))) :: (i, none) :: d, n + 1)
        | _ => none
      | _ => none
    | _ => none
  | _ => none

/-- The built-ins len, max and append. -/
def evBuiltin (E : Env) (b : Builtin) (tys : List Nat) (args : List AV) (B : List Seg) (d : Seg) (n : Nat) : Option (AV × Seg × Nat) :=
  match b with
  | .len => match tys, args with
    | t :: _, .c x :: _ => match assoc E.tys t with
      | some r => match r.desc, x with
        | .string, .str s => some (.c (.int .i64 s.length), d, n)
        | .slice _, .sl0 => some (.c (.int .i64 0), d, n)
        | .slice _, .sl _ len => some (.c (.int .i64 len), d, n)
        | .slice _, .raw (.slice _ len _) => some (.c (.int .i64 len), d, n)
        | .map _ _, .mnil => some (.c (.int .i64 0), d, n)
        | .map _ _, .mref i => match get (d :: B) i with
          | some (.pm ks _) => some (.c (.int .i64 ks.length), d, n)
          | some (.km es _) => some (.c (.int .i64 es.length), d, n)
          | _ => none
        | _, _ => none
      | none => none
    | _, _ => none
  | .max => match args with
    | .c (.int k x) :: r => match maxInts k x r with
      | some y => some (.c (.int k y), d, n)
      | none => none
    | _ => none
  | .min => match args with
    | .c (.int k x) :: r => match minInts k x r with
      | some y => some (.c (.int k y), d, n)
      | none => none
    | _ => none
  | .append => match tys, args with
    | [t, u], [.c x, .c y] => if t != u then none else match assoc E.tys t with
      | some rt => match rt.desc with
        | .slice e => match assoc E.tys e with
          | some re => evAppend e re x y B d n
          | none => none
        | _ => none
      | none => none
    | _, _ => none
  | _ => none

def evOp (E : Env) (call : CallF) (s : Slots) (o : Oper) (B : List Seg) (d : Seg) (n : Nat) : Option (AV × Seg × Nat) :=
  match o.op with
  | .move x | .assign x => match val s x with
    | some v => some (v, d, n)
    | none => none
  | .pick c a b => match val s c, val s a, val s b with
    | some (.c (.bool t)), some va, some vb => some (if t then va else vb, d, n)
    | _, _, _ => none
  | .alloc t => match assoc E.tys t with
    | some r => if r.zero.length == r.size && cellsGood r.zero then some (.c (.ptr n 0), (n, some (.cells t r.zero)) :: d, n + 1) else none
    | none => none
  | .box t x => match assoc E.tys t, val s x with
    | some r, some v => let l := cellsOf v
      if l.length == r.size && cellsGood l && r.size != 0 then some (.c (.ptr n 0), (n, some (.cells t l)) :: d, n + 1) else none
    | _, _ => none
  | .build t parts => match assoc E.tys t, partsOf s parts.toList with
    | some r, some ps => match r.desc with
      | .struct fields => if r.zagg && allFields E fields then (match spliceAll (places E fields) r.zero ps with
        | some l => some (.agg l, d, n)
        | none => none) else none
      | _ => none
    | _, _ => none
  | .buildSlice t len parts => match assoc E.tys t, partsOf s parts.toList with
    | some r, some ps => match r.desc with
      | .slice e => match assoc E.tys e with
        | some re =>
          if re.size == 0 || re.zero.length != re.size || len == 0 || len * re.size > 100000 || !cellsGood re.zero then none else
          match spliceAll (fun i => some (i * re.size, re.size)) ((List.range (len * re.size)).map fun i => re.zero.getD (i % re.size) .undef) ps with
          | some l => if cellsGood l && l.length == len * re.size then some (.c (.sl n len), (n, some (.cells e l)) :: d, n + 1) else none
          | none => none
        | none => none
      | _ => none
    | _, _ => none
  | .makeSlice t x y => match assoc E.tys t, val s x, val s y with
    | some r, some (.c (.int .i64 a)), some (.c (.int .i64 b)) => match r.desc with
      | .slice e => match assoc E.tys e with
        | some re => if a == b && decide (0 ≤ a) && decide (a ≤ 100000) && re.size == 1 && re.zero.length == 1 && decide (re.bytes ≤ 1000) && cellsGood re.zero then
            some (.c (.sl n a.toNat), (n, some (.cells e (List.replicate a.toNat (re.zero.getD 0 .undef)))) :: d, n + 1) else none
        | none => none
      | _ => none
    | _, _, _ => none
  | .load t a => match assoc E.tys t, val s a with
    | some r, some (.c (.ptr i off)) => match get (d :: B) i with
      | some (.cells _ cs) =>
        if isAggD r.desc then (if off + r.size ≤ cs.length then some (.agg ((cs.drop off).take r.size), d, n) else none)
        else (match cs[off]? with
          | some x => some (.c x, d, n)
          | none => none)
      | _ => none
    | some r, some (.c (.raw (.pointer (some ⟨b, off, none⟩)))) =>
      if isAggD r.desc then (match memCells E b off r.size with
        | some l => some (.agg l, d, n)
        | none => none)
      else (match E.mem b off with
        | some x => some (.c (lift x), d, n)
        | none => none)
    | _, _ => none
  | .store t a x => match assoc E.tys t, val s a, val s x with
    | some r, some (.c (.ptr i off)), some v => match get (d :: B) i with
      | some (.cells e cs) => let l := cellsOf v
        if l.length == r.size && cellsGood l && decide (off + l.length ≤ cs.length) && (r.size != 0 || isAggV v) then
          some (.c .undef, (i, some (.cells e (splice cs off l))) :: d, n) else none
      | _ => none
    | _, _, _ => none
  | .nilCheck x => match val s x with
    | some (.c (.ptr i off)) => some (.c (.ptr i off), d, n)
    | some (.c (.raw (.pointer (some a)))) => some (.c (.raw (.pointer (some a))), d, n)
    | _ => none
  | .binOp op ty x y _ => match val s x, val s y with
    | some a, some b => match evBin E op ty a b with
      | some r => some (.c r, d, n)
      | none => none
    | _, _ => none
  | .unOp .not _ x => match val s x with
    | some (.c (.bool b)) => some (.c (.bool (!b)), d, n)
    | _ => none
  | .convert src dst x => match val s x with
    | some v => match evConv E (d :: B) src dst v with
      | some r => some (.c r, d, n)
      | none => none
    | none => none
  | .slice t x (some lo) (some hi) none => match assoc E.tys t, val s x, val s lo, val s hi with
    | some r, some (.c (.str l)), some (.c (.int _ a)), some (.c (.int _ b)) => match r.desc with
      | .string => if 0 ≤ a ∧ a ≤ b ∧ b ≤ l.length then some (.c (.str ((l.take b.toNat).drop a.toNat)), d, n) else none
      | _ => none
    | _, _, _, _ => none
  | .slice t x (some lo) none none => match assoc E.tys t, val s x, val s lo with
    | some r, some (.c (.str l)), some (.c (.int _ a)) => match r.desc with
      | .string => if 0 ≤ a ∧ a ≤ l.length then some (.c (.str (l.drop a.toNat)), d, n) else none
      | _ => none
    | _, _, _ => none
  | .slice t x none (some hi) none => match assoc E.tys t, val s x, val s hi with
    | some r, some (.c (.str l)), some (.c (.int _ b)) => match r.desc with
      | .string => if 0 ≤ b ∧ b ≤ l.length then some (.c (.str (l.take b.toNat)), d, n) else none
      | _ => none
    | some r, some (.c (.sl i len)), some (.c (.int _ b)) => match r.desc with
      | .slice e => match assoc E.tys e, get (d :: B) i with
        | some re, some (.cells ei ci) => if 0 ≤ b ∧ b ≤ len ∧ ei = e ∧ re.size ≠ 0 ∧ len * re.size ≤ ci.length then some (.c (.sl i b.toNat), d, n) else none
        | _, _ => none
      | _ => none
    | some r, some (.c (.raw (.slice (some ⟨b, off, none⟩) _ cap))), some (.c (.int _ k)) => match r.desc with
      | .slice e => match assoc E.tys e with
        | some _ => if 0 ≤ k ∧ k ≤ cap then some (.c (.raw (.slice (some ⟨b, off, none⟩) k.toNat cap)), d, n) else none
        | none => none
      | _ => none
    | _, _, _ => none
  | .fieldAddr t x f => match assoc E.tys t, val s x with
    | some r, some (.c (.ptr i off)) => match r.desc with
      | .struct fields => match fields.toList[f]? with
        | some fd => match assoc E.tys fd.type with
          | some rf => if rf.size == 0 then none else some (.c (.ptr i (off + fd.offset)), d, n)
          | none => none
        | none => none
      | _ => none
    | some r, some (.c (.raw (.pointer (some ⟨b, off, none⟩)))) => match r.desc with
      | .struct fields => match fields.toList[f]? with
        | some fd => match assoc E.tys fd.type with
          | some rf => if rf.size == 0 then none else some (.c (.raw (.pointer (some ⟨b, off + fd.offset, none⟩))), d, n)
          | none => none
        | none => none
      | _ => none
    | _, _ => none
  | .indexAddr t x ix => match assoc E.tys t, val s x, val s ix with
    | some r, some (.c (.sl i len)), some (.c (.int _ k)) => match r.desc with
      | .slice e => match assoc E.tys e with
        | some re => if 0 ≤ k ∧ k < len then some (.c (.ptr i (k.toNat * re.size)), d, n) else none
        | none => none
      | _ => none
    | some r, some (.c (.raw (.slice (some ⟨b, off, none⟩) len _))), some (.c (.int _ k)) => match r.desc with
      | .slice e => match assoc E.tys e with
        | some re => if 0 ≤ k ∧ k < len then some (.c (.raw (.pointer (some ⟨b, off + k.toNat * re.size, none⟩))), d, n) else none
        | none => none
      | _ => none
    | _, _, _ => none
  | .index t x ix => match assoc E.tys t, val s x, val s ix with
    | some r, some (.c (.str l)), some (.c (.int _ k)) => match r.desc with
      | .string => if 0 ≤ k then (match l[k.toNat]? with
        | some b => some (.c (.int .u8 b.toNat), d, n)
        | none => none) else none
      | _ => none
    | _, _, _ => none
  | .extract x i => match val s x with
    | some (.tup l) => match l[i]? with
      | some (.raw (.agg ⟨[]⟩)) => some (.agg [], d, n)
      | some v => some (.c v, d, n)
      | none => none
    | _ => none
  | .makeMap t none => match assoc E.tys t with
    | some r => match r.desc with
      | .map k _ => match assoc E.tys k with
        | some rk => match rk.desc with
          | .int _ => some (.c (.mref n), (n, some (.pm [] 0)) :: d, n + 1)
          | .struct _ => some (.c (.mref n), (n, some (.km [] 0)) :: d, n + 1)
          | _ => none
        | none => none
      | _ => none
    | none => none
  | .mapUpdate t m k x | .insert t m k x => match assoc E.tys t, val s m, val s k, val s x with
    | some r, some (.c (.mref i)), some (.c (.int .i64 q)), some (.agg []) => match r.desc, get (d :: B) i with
      | .map kt _, some (.pm ks clock) => match assoc E.tys kt with
        | some { desc := .int .i64, .. } => if pfind q ks then some (.c .undef, (i, some (.pm ks clock)) :: d, n) else some (.c .undef, (i, some (.pm (ks ++ [(q, clock)]) (clock + 1))) :: d, n)
        | _ => none
      | _, _ => none
    | some r, some (.c (.mref i)), some (.agg [.str nm, .int .i64 q]), some (.c (.mref j)) => match r.desc, get (d :: B) i with
      | .map kt _, some (.km es clock) => if isKeyT E kt then (match kfind nm q es with
        | some _ => none
        | none => some (.c .undef, (i, some (.km (es ++ [(nm, q, j, clock)]) (clock + 1))) :: d, n)) else none
      | _, _ => none
    | _, _, _, _ => none
  | .lookup t m k ok => match assoc E.tys t, val s m, val s k with
    | some r, some (.c (.mref i)), some (.agg [.str nm, .int .i64 q]) => match r.desc, get (d :: B) i with
      | .map kt et, some (.km es _) => if isKeyT E kt then (match kfind nm q es with
        | some j => some (if ok then .tup [.mref j, .bool true] else .c (.mref j), d, n)
        | none => match assoc E.tys et with
          | some { desc := .map _ _, zero := [.mnil], zagg := false, .. } => some (if ok then .tup [.mnil, .bool false] else .c .mnil, d, n)
          | _ => none) else none
      | _, _ => none
    | _, _, _ => none
  | .range t x => match assoc E.tys t, val s x with
    | some r, some (.c (.str l)) => match r.desc with
      | .string => some (.c (.ptr n 0), (n, some (.sit l 0)) :: d, n + 1)
      | _ => none
    | some r, some (.c (.mref m)) => match r.desc, get (d :: B) m with
      | .map _ _, some (.pm _ clock) => some (.c (.ptr n 0), (n, some (.mit m clock [] clock)) :: d, n + 1)
      | .map _ _, some (.km _ clock) => some (.c (.ptr n 0), (n, some (.mit m clock [] clock)) :: d, n + 1)
      | _, _ => none
    | _, _ => none
  | .next it true => match val s it with
    | some (.c (.ptr i 0)) => match get (d :: B) i with
      | some (.sit l pos) => if pos < l.length then
          some (.tup [.bool true, .int .i64 pos, .int .i32 (Utf8.decode ⟨l.toArray⟩ pos).1], (i, some (.sit l (pos + (Utf8.decode ⟨l.toArray⟩ pos).2))) :: d, n)
        else some (.tup [.bool false], d, n)
      | _ => none
    | _ => none
  | .entry it => match val s it with
    | some (.c (.ptr i 0)) => match get (d :: B) i with
      | some (.mit m _ was stepped) => match was.getLast?, get (d :: B) m with
        | some st, some (.pm ks clock) => if clock != stepped then none else match ks.find? (fun p => p.2 == st) with
          | some p => some (.tup [.int .i64 p.1, .raw (.agg ⟨[]⟩)], d, n)
          | none => none
        | _, _ => none
      | _ => none
    | _ => none
  | .call c => match c.callee with
    | .value (.func f) => match vals s c.args.toList with
      | some vs => call f vs B d n
      | none => none
    | .value (.tmp t) => match s.get t, vals s c.args.toList with
      | .c (.clo f i), some vs => call f (vs ++ [.c (.ptr i 0)]) B d n
      | _, _ => none
    | .builtin b => match vals s c.args.toList with
      | some vs => evBuiltin E b c.argTypes.toList vs B d n
      | none => none
    | _ => none
  | .makeFunc (.func f) first captured => match first.toList, vals s captured.toList with
    | [], some [.c (.ptr i 0)] => some (.c (.clo f i), d, n)
    | _, _ => none
  | _ => none

/-- Is the operation carried out? (its guard) none: it can't be told. -/
def evWanted (s : Slots) (ops : List Oper) (o : Oper) : Option Bool :=
  match o.guard with
  | none => some true
  | some (j, want) => match ops[j]? with
    | some oj => match oj.dst with
      | some t => if t < s.nt then (match s.get t with
        | .c (.bool b) => some (b == want)
        | .c .undef => some false
        | _ => none) else none
      | none => none
    | none => none

def evOps (E : Env) (call : CallF) (ops : List Oper) : List Oper → Slots → List Seg → Seg → Nat → Option (Slots × Seg × Nat)
  | [], s, _, d, n => some (s, d, n)
  | o :: r, s, B, d, n => match evWanted s ops o with
    | none => none
    | some false => evOps E call ops r (s.put o.dst (.c .undef)) B d n
    | some true => match evOp E call s o B d n with
      | some (v, d', n') => evOps E call ops r (s.put o.dst v) B d' n'
      | none => none

/-! Regions that draw their order. -/

/-- What stands ahead of each operation, all the way back, as bits: newest first. -/
def befGo : List Oper → List Nat → List Nat
  | [], acc => acc
  | o :: r, acc =>
    let k := acc.length
    befGo r ((o.after.toList.foldl (fun b e => if Region.binds .any e then b ||| 2 ^ e.on ||| acc.getD (k - 1 - e.on) 0 else b) 0) :: acc)

structure Rec where
  v : AV
  δ : Seg
  lo : Nat
  hi : Nat
  dst : Option Nat

def tomb (δ : Seg) : Seg := δ.map fun p => (p.1, none)

/-- What an operation sees of the heap that the records made (newest first; the first one's number is one below 'k'): of those that 'p' names what they made, of the others that it's gone. -/
def seen (p : Nat → Bool) : List Rec → Nat → List Seg
  | [], _ => []
  | r :: rs, k => (if p (k - 1) then r.δ else tomb r.δ) :: seen p rs (k - 1)

/-- What the records that 'p' names wrote into slots. -/
def wrs (nt : Nat) (p : Nat → Bool) : List Rec → Nat → List (Nat × AV)
  | [], _ => []
  | r :: rs, k => match r.dst with
    | some t => if p (k - 1) && decide (t < nt) then (t, r.v) :: wrs nt p rs (k - 1) else wrs nt p rs (k - 1)
    | none => wrs nt p rs (k - 1)

def bitOf (bits : List Nat) (k j : Nat) : Bool := (bits.getD k 0).testBit j

def slotsAt (s : Slots) (bits : List Nat) (rs : List Rec) (k : Nat) : Slots := ⟨s.nt, wrs s.nt (bitOf bits k) rs k ++ s.l⟩

def heapAt (bits : List Nat) (hs : List (List Nat)) (B : List Seg) (rs : List Rec) (k : Nat) : List Seg := ((hs.getD k []).map fun i => (i, none)) :: (seen (bitOf bits k) rs k ++ B)

/-- 'hs': of each operation, which objects it must not look at besides. -/
def evDrawGo (E : Env) (call : CallF) (ops : List Oper) (bits : List Nat) (hs : List (List Nat)) (B : List Seg) (s : Slots) : List Oper → Nat → List Rec → Nat → Option (List Rec × Nat)
  | [], _, rs, n => some (rs, n)
  | o :: r, k, rs, n => match evWanted (slotsAt s bits rs k) ops o with
    | none => none
    | some false => evDrawGo E call ops bits hs B s r (k + 1) (⟨.c .undef, [], n, n, o.dst⟩ :: rs) n
    | some true => match evOp E call (slotsAt s bits rs k) o (heapAt bits hs B rs k) [] n with
      | some (v, δ, n') => if n ≤ n' then evDrawGo E call ops bits hs B s r (k + 1) (⟨v, δ, n, n', o.dst⟩ :: rs) n' else none
      | none => none

/-- What later operations that are not behind operation k write of what was there when k began ('j': one more than the first record's number). -/
def laterIds (bits : List Nat) (k lo : Nat) : List Rec → Nat → List Nat
  | [], _ => []
  | r :: rs, j => if j ≤ k + 1 then [] else
    (if bitOf bits (j - 1) k then [] else (r.δ.map (·.1)).filter (fun i => decide (i < lo))) ++ laterIds bits k lo rs (j - 1)

/-- Of each operation, in order. -/
def laters (bits : List Nat) (all : List Rec) (m : Nat) : List Rec → Nat → List (List Nat)
  | [], _ => []
  | r :: rs, k => laterIds bits k r.lo all m :: laters bits all m rs (k + 1)

def subIds (xs ys : List Nat) : Bool := xs.all fun x => ys.any fun y => x == y

def subAll : List (List Nat) → List (List Nat) → Bool
  | [], _ => true
  | x :: xs, [] => x.isEmpty && subAll xs []
  | x :: xs, y :: ys => subIds x y && subAll xs ys

def flat : List Rec → Seg → Seg
  | [], d => d
  | r :: rs, d => r.δ ++ flat rs d

def evDraw (E : Env) (call : CallF) (ops : List Oper) (B : List Seg) (s : Slots) (d : Seg) (n : Nat) : Option (Slots × Seg × Nat) :=
  let bits := (befGo ops []).reverse
  match evDrawGo E call ops bits [] (d :: B) s ops 0 [] n with
  | none => none
  | some (rs, n') =>
    let ls := laters bits rs ops.length rs.reverse 0
    if subAll ls [] then some (⟨s.nt, wrs s.nt (fun _ => true) rs ops.length ++ s.l⟩, flat rs d, n') else
    match evDrawGo E call ops bits ls (d :: B) s ops 0 [] n with
    | none => none
    | some (rs', n'') => if subAll (laters bits rs' ops.length rs'.reverse 0) ls then some (⟨s.nt, wrs s.nt (fun _ => true) rs' ops.length ++ s.l⟩, flat rs' d, n'') else none

/-! What a region that draws must be: edges go back; the bits are what the edges say; two operations of which none is behind the other do not meet in a slot. -/

def edgeOk (k : Nat) (e : Edge) : Bool := !Region.binds .any e || decide (e.on < k)

def bitOk (bits : List Nat) (o : Oper) (k x : Nat) : Bool :=
  !bitOf bits k x || o.after.toList.any fun e => Region.binds .any e && (e.on == x || bitOf bits e.on x)

def pairsOk (ops : Array Oper) (bits : List Nat) (o : Oper) (k : Nat) : List Oper → Nat → Bool
  | [], _ => true
  | p :: r, i => (if i < k then bitOf bits k i || p.apart ops o else true) && pairsOk ops bits o k r (i + 1)

def statGo (ops : Array Oper) (bits : List Nat) : List Oper → Nat → Bool
  | [], _ => true
  | o :: r, k => o.after.toList.all (edgeOk k) && ((List.range k).all (bitOk bits o k)) && decide (bits.getD k 0 < 2 ^ k) && pairsOk ops bits o k ops.toList 0 && statGo ops bits r (k + 1)

def statOk (ops : Array Oper) : Bool := statGo ops (befGo ops.toList []).reverse ops.toList 0

def codeOk : Code → Bool
  | .region _ ops true => statOk ops
  | .seq a b => codeOk a && codeOk b
  | .cond _ a b => codeOk a && codeOk b
  | .block _ c => codeOk c
  | .loop c => codeOk c
  | _ => true

/-! Code, calls. -/

inductive AX where
  | norm
  | exit (id : Nat)
  | ret

abbrev CodeF := Code → List Seg → Slots → Seg → Nat → Option (AX × Slots × Seg × Nat)

def codeStep (E : Env) (call : CallF) (rec : CodeF) : CodeF := fun c B s d n =>
  match c with
  | .skip => some (.norm, s, d, n)
  | .label _ => some (.norm, s, d, n)
  | .region _ ops false => match evOps E call ops.toList ops.toList s B d n with
    | some (s', d', n') => some (.norm, s', d', n')
    | none => none
  | .region _ ops true => match evDraw E call ops.toList B s d n with
    | some (s', d', n') => some (.norm, s', d', n')
    | none => none
  | .seq a b => match rec a B s d n with
    | some (.norm, s', d', n') => rec b B s' d' n'
    | r => r
  | .cond x a b => match val s x with
    | some (.c (.bool t)) => rec (if t then a else b) B s d n
    | _ => none
  | .block id c => match rec c B s d n with
    | some (.exit j, s', d', n') => some (if j == id then .norm else .exit j, s', d', n')
    | r => r
  | .loop c => match rec c B s d n with
    | some (.norm, s', d', n') => rec (.loop c) B s' d' n'
    | r => r
  | .exit id => some (.exit id, s, d, n)
  | .ret => some (.ret, s, d, n)
  | _ => none

def argSlots : List AV → Nat → List (Nat × AV)
  | [], _ => []
  | v :: r, k => (k, v) :: argSlots r (k + 1)

def resultOf (E : Env) (s : Slots) (H : List Seg) : ResultVar → Option AV
  | .tmp t => some (s.get t)
  | .cell a t => match assoc E.tys t, s.get a with
    | some r, .c (.ptr i off) => match get H i with
      | some (.cells _ cs) =>
        if isAggD r.desc then (if off + r.size ≤ cs.length then some (.agg ((cs.drop off).take r.size)) else none)
        else (match cs[off]? with
          | some x => some (.c x)
          | none => none)
      | _ => none
    | _, _ => none

def resultsOf (E : Env) (s : Slots) (H : List Seg) : List ResultVar → Option (List AC)
  | [] => some []
  | r :: rs => match resultOf E s H r, resultsOf E s H rs with
    | some (.c x), some l => some (x :: l)
    | _, _ => none

def finalOf (E : Env) (s : Slots) (H : List Seg) : List ResultVar → Option AV
  | [r] => resultOf E s H r
  | rs => match resultsOf E s H rs with
    | some l => some (.tup l)
    | none => none

def evCall (E : Env) (rec : CodeF) : CallF := fun f args B d n =>
  match assoc E.fns f with
  | some fn => match fn.body with
    | some c => if args.length ≤ fn.ntmps then (match rec c B ⟨fn.ntmps, argSlots args 0⟩ d n with
      | some (.norm, s, d', n') => match finalOf E s (d' :: B) fn.results.toList with
        | some v => some (v, d', n')
        | none => none
      | some (.ret, s, d', n') => match finalOf E s (d' :: B) fn.results.toList with
        | some v => some (v, d', n')
        | none => none
      | _ => none) else none
    | none => none
  | none => none

def ev (E : Env) : Nat → CodeF
  | 0 => fun _ _ _ _ _ => none
  | k + 1 => codeStep E (evCall E (ev E k)) (ev E k)

def evFn (E : Env) (k : Nat) : CallF := evCall E (ev E k)

def fnsOk (E : Env) : Bool := E.fns.all fun p => match p.2.body with
  | some c => codeOk c && p.2.name != "runtime.NumGoroutine"
  | none => false

end Go.Proofs.YtdpielghjaehbaaGreat.Ev
