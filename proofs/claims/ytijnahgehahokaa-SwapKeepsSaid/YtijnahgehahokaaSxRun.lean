/- The runner: a function's code, run on what is known of its values; what it cannot tell it asks for as a proposition. -/
import Derived.Test.YtijnahgehahokaaSxCore
import Derived.StillTail
set_option linter.unusedVariables false
namespace Go.Sx

/-- What is reckoned with the leaves: open while the runner runs. -/
structure Leaf where
  ar : BinOp → IntKind → Int → Int → Int
  cmp : BinOp → Int → Int → Bool
  neg : IntKind → Int → Int
  cv : IntKind → Int → Int
  mx : Int → Int → Int
  mn : Int → Int → Int
  not : Bool → Bool
  ite : Bool → Bool → Bool → Bool
  beq : Bool → Bool → Bool
  scmp : BinOp → ByteArray → ByteArray → Bool
  cat : ByteArray → ByteArray → ByteArray
  sub : ByteArray → Int → Int → ByteArray
  byte : ByteArray → Int → Int
  ssize : ByteArray → Nat
  of : Nat → Int
  nat : Int → Nat
  nadd : Nat → Nat → Nat
  nsub : Nat → Nat → Nat
  sel : List Int → Int → Int
  inb : Int → Nat → Prop     -- 0 ≤ i < n
  inc : Int → Int → Prop     -- 0 ≤ i ≤ n
  le : Nat → Nat → Prop
  ne0 : Int → Prop
  nneg : Int → Prop
  eqn : Nat → Nat → Prop
  room : Nat → Nat → Prop

def lk {α : Type} : List (Nat × α) → Nat → Option α
  | [], _ => none
  | (d, x) :: s, t => if Nat.beq d t then some x else lk s t
def look : List (Nat × SV) → Nat → SV
  | [], _ => .any
  | (d, x) :: s, t => if Nat.beq d t then x else look s t

inductive HB where
  | cells (cs : List SV) (ty : TypeId)
  | row (ty : TypeId) (sz n : Nat) (get : Nat → List SV) (ver : Nat)
  | buf (n : Nat) (get : Nat → Int)     -- the bytes of a []byte(s)
  | gone

/-- A type, as the runner wants it. -/
inductive TD where
  | sc
  | bool
  | ptr
  | int (k : IntKind)
  | str
  | st (fs : List (Nat × Nat × Bool))     -- each field's offset, size, and whether it is a row itself
  | arr (len sz : Nat) (agg : Bool)
  | sl (elem : TypeId)
structure TI where
  td : TD
  size : Nat
  zero : Value
  bytes : Nat

structure Tab where
  ty : List (Nat × TI)
  fn : List (Nat × Func)
  conc : Bool
  join : List (Nat × List Nat)
  lexs : List (Nat × List Nat)     -- each function's regions that draw an order and may be run in the order of the text
  tails : List (Nat × List (Nat × Nat × List Nat × Bool))     -- of each function: regions of which the last operations go one behind the other: region, first of these, copies ahead of all, are the others in the order of the text?
  ghosts : List (Nat × List (Nat × Nat × Nat × Nat))     -- of each function: empty slices in new structs that are rows of one's own from a region on: region, slot, cell, element type
  eqs : List (Nat × List Nat)     -- structs that are compared: what their cells are: 0 integers, 1 bools, 2 strings

abbrev Slots := List (Nat × SV)
abbrev Heap := List HB
abbrev Ans := Option (SV × Prop)

def opd (s : Slots) : Operand → SV
  | .tmp t => look s t
  | .const v => .v v
  | .global _ => .any
  | .func f => .fn f [] []
def opds (s : Slots) : List Operand → List SV
  | [] => []
  | x :: xs => opd s x :: opds s xs

def svs : List Value → List SV
  | [] => []
  | x :: xs => .v x :: svs xs
/-- The cells of a value. -/
def cellsOf : SV → List SV
  | .a cs => cs
  | .v (.agg cs) => svs cs.toList
  | x => [x]
/-- Is it surely of one cell? -/
def one : SV → Bool
  | .v (.agg _) | .v (.tuple _) | .a _ | .t _ | .any => false
  | _ => true
def oneL : List SV → Bool
  | [] => true
  | x :: xs => one x && oneL xs
def ofCells (agg : Bool) (cs : List SV) : Option SV := match agg with | true => some (.a cs) | false => match cs with | [x] => some x | _ => none
def ans (x : Option SV) (sc : Prop) : Option (SV × Prop) := match x with | some x => some (x, sc) | none => none
def zeroCells (v : Value) : List SV := cellsOf (.v v)
def setAt (cs : List SV) (off : Nat) (xs : List SV) : List SV := cs.take off ++ xs ++ cs.drop (off + xs.length)
def rowTD : TD → Bool
  | .st _ | .arr _ _ _ => true
  | _ => false
def kidx : IntKind → Nat
  | .i8 => 0 | .i16 => 1 | .i32 => 2 | .i64 => 3 | .u8 => 4 | .u16 => 5 | .u32 => 6 | .u64 => 7
def sameK (a b : IntKind) : Bool := Nat.beq (kidx a) (kidx b)

def ints : List SV → Option (IntKind × List Int)
  | [] => none
  | [.v (.int k x)] => some (k, [x])
  | .v (.int k' x) :: r => match ints r with | some (k, xs) => if sameK k' k then some (k, x :: xs) else none | none => none
  | _ => none
/-- A column of an array of structs. -/
def column (cs : List SV) (off sz foff : Nat) : Nat → List SV
  | 0 => []
  | n + 1 => ((cs.drop (off + foff)).headD .any) :: column cs (off + sz) sz foff n

section
variable (O : Leaf) (H : Heap)
mutual
/-- A result, read by value: what was written will not be written any more. -/
def frz : Nat → SV → Option (SV × Prop)
  | 0, _ => none
  | n + 1, x =>
    match x with
    | .v x => some (.v x, True)
    | .rs sz m get => some (.rs sz m get, True)
    | .rp cs => some (.rp cs, True)
    | .any => some (.any, True)
    | .a cs => match frzL n cs with | some (cs', sc) => some (.a cs', sc) | none => none
    | .t cs => match frzL n cs with | some (cs', sc) => some (.t cs', sc) | none => none
    | .o i ver => match H[i]? with | some (.row _ sz m get ver') => some (.rs sz m get, O.eqn ver ver') | _ => none
    | .p i off =>
      match H[i]? with
      | some (.cells cs _) => match frzL n (cs.drop off) with | some (cs', sc) => some (.rp cs', sc) | none => none
      | _ => none
    | _ => none
def frzL : Nat → List SV → Option (List SV × Prop)
  | 0, _ => none
  | n + 1, xs =>
    match xs with
    | [] => some ([], True)
    | x :: xs =>
      match frz n x, frzL n xs with
      | some (x', sc), some (xs', sc') => some (x' :: xs', sc ∧ sc')
      | _, _ => none
end
end

section
variable (O : Leaf) (tab : Tab)

def evBinI (op : BinOp) (k k' : IntKind) (a b : Int) : Ans :=
  match op with
  | .shl | .shr => some (.v (.int k (O.ar op k a b)), O.nneg b)
  | .add | .sub | .mul | .and | .or | .xor | .andNot => if sameK k k' then some (.v (.int k (O.ar op k a b)), True) else none
  | .quo | .rem => if sameK k k' then some (.v (.int k (O.ar op k a b)), O.ne0 b) else none
  | .eql | .neq | .lss | .leq | .gtr | .geq => if sameK k k' then some (.v (.bool (O.cmp op a b)), True) else none

def eqlB (op : BinOp) (b : Bool) : Ans :=
  match op with
  | .eql => some (.v (.bool b), True)
  | .neq => some (.v (.bool (!b)), True)
  | _ => none
def evBin (td : Option TI) (op : BinOp) (x y : SV) : Ans :=
  match x, y with
  | .v (.int k a), .v (.int k' b) => evBinI O op k k' a b
  | .v (.string a), .v (.string b) =>
    match op with
    | .add => some (.v (.string (O.cat a b)), O.le (O.nadd (O.ssize a) (O.ssize b)) 9223372036854775807)
    | .eql | .neq | .lss | .leq | .gtr | .geq => some (.v (.bool (O.scmp op a b)), True)
    | _ => none
  | .v (.bool a), .v (.bool b) =>
    match td, op with
    | some ⟨.bool, _, _, _⟩, .eql => some (.v (.bool (O.beq a b)), True)
    | some ⟨.bool, _, _, _⟩, .neq => some (.v (.bool (O.not (O.beq a b))), True)
    | _, _ => none
  | .p _ _, .v (.pointer none) | .rp _, .v (.pointer none) => match td with | some ⟨.ptr, _, _, _⟩ => eqlB op false | _ => none
  | .v (.pointer none), .v (.pointer none) => match td with | some ⟨.ptr, _, _, _⟩ => eqlB op true | _ => none
  | _, _ => none

def eqCells : List Nat → List SV → List SV → Option Bool
  | [], [], [] => some true
  | 0 :: ks, .v (.int k a) :: xs, .v (.int k' b) :: ys => match sameK k k', eqCells ks xs ys with | true, some r => some (O.ite (O.cmp .eql a b) r false) | _, _ => none
  | 1 :: ks, .v (.bool a) :: xs, .v (.bool b) :: ys => match eqCells ks xs ys with | some r => some (O.ite (O.beq a b) r false) | none => none
  | 2 :: ks, .v (.string a) :: xs, .v (.string b) :: ys => match eqCells ks xs ys with | some r => some (O.ite (O.scmp .eql a b) r false) | none => none
  | _, _, _ => none
def evEq (ks : Option (List Nat)) (op : BinOp) (x y : SV) : Ans :=
  match ks, x, y with
  | some ks, .a xs, .a ys =>
    match eqCells O ks xs ys, op with
    | some b, .eql => some (.v (.bool b), True)
    | some b, .neq => some (.v (.bool (O.not b)), True)
    | _, _ => none
  | _, _, _ => none

def evUn (op : UnOp) (x : SV) : Ans :=
  match op, x with
  | .not, .v (.bool b) => some (.v (.bool (O.not b)), True)
  | .neg, .v (.int k n) => some (.v (.int k (O.neg k n)), True)
  | _, _ => none

def evPick (c a b : SV) : Ans :=
  match c, a, b with
  | .v (.bool c), .v (.bool a), .v (.bool b) => some (.v (.bool (O.ite c a b)), True)
  | _, _, _ => none

def evFieldAddr (st : TypeId) (x : SV) (f : Nat) : Ans :=
  match lk tab.ty st with
  | some ⟨.st fs, _, _, _⟩ =>
    match fs[f]? with
    | some (off, sz, _) =>
      if Nat.beq sz 0 then none else
      match x with
      | .p i o => some (.p i (o + off), True)
      | .rp cs => some (.rp (cs.drop off), True)
      | .e i ver j o => some (.e i ver j (o + off), True)
      | .pe i o esz foff ix => some (.pe i o esz (foff + off) ix, True)
      | _ => none
    | none => none
  | _ => none

def evField (st : TypeId) (x : SV) (f : Nat) : Ans :=
  match lk tab.ty st with
  | some ⟨.st fs, _, _, _⟩ =>
    match fs[f]?, x with
    | some (off, sz, agg), .a cs => if Nat.beq sz 0 then none else if (off + sz).ble cs.length then ans (ofCells agg ((cs.drop off).take sz)) True else none
    | _, _ => none
  | _ => none

def evLoad (H : Heap) (t : TypeId) (x : SV) : Ans :=
  match lk tab.ty t with
  | some ti =>
    match x with
    | .p i off =>
      match H[i]? with
      | some (.cells cs _) => if (off + ti.size).ble cs.length then ans (ofCells (rowTD ti.td) ((cs.drop off).take ti.size)) True else none
      | _ => none
    | .rp cs => if ti.size.ble cs.length then ans (ofCells (rowTD ti.td) (cs.take ti.size)) True else none
    | .e i ver j off =>
      match H[i]? with
      | some (.row _ sz n get ver') => if (off + ti.size).ble sz then ans (ofCells (rowTD ti.td) (((get j).drop off).take ti.size)) (O.eqn ver ver' ∧ O.le (O.nadd j 1) n) else none
      | _ => none
    | .pe i off esz foff ix =>
      match rowTD ti.td, H[i]? with
      | false, some (.cells cs _) =>
        match ints (column cs off esz foff ((cs.length - off) / esz)) with
        | some (k, xs) => some (.v (.int k (O.sel xs ix)), O.inb ix xs.length)
        | none => none
      | _, _ => none
    | _ => none
  | none => none

def evIndexAddr (H : Heap) (t : TypeId) (x ix : SV) : Ans :=
  match lk tab.ty t, ix with
  | some ti, .v (.int _ i) =>
    match ti.td, x with
    | .sl el, .rs sz n get =>
      match lk tab.ty el with
      | some ei => if Nat.beq ei.size sz then some (.rp (get (O.nat i)), O.inb i n) else none
      | none => none
    | .sl el, .o r ver =>
      match lk tab.ty el, H[r]? with
      | some ei, some (.row _ sz n _ ver') => if Nat.beq ei.size sz then some (.e r ver (O.nat i) 0, O.eqn ver ver' ∧ O.inb i n) else none
      | some ei, some (.buf n _) => if Nat.beq ei.size 1 then some (.pe r 0 1 0 i, O.eqn ver 0 ∧ O.inb i n) else none
      | _, _ => none
    | .arr len sz _, .p b off => if Nat.ble 2 len then some (.pe b off sz 0 i, O.inb i len) else none
    | _, _ => none
  | _, _ => none

/-- An array's element at a constant place. -/
def evIndexAddrC (t : TypeId) (x : SV) (i : Int) : Ans :=
  match lk tab.ty t with
  | some ⟨.arr len sz _, _, _, _⟩ =>
    match x with
    | .p b off => if Nat.blt i.toNat len && decide (0 ≤ i) then some (.p b (off + i.toNat * sz), True) else none
    | _ => none
  | _ => none

def evLen (H : Heap) (ats : List TypeId) (x : SV) : Ans :=
  match ats with
  | [t] =>
    match lk tab.ty t, x with
    | some ⟨.sl _, _, _, _⟩, .rs _ n _ => some (.v (.int .i64 (O.of n)), True)
    | some ⟨.str, _, _, _⟩, .v (.string b) => some (.v (.int .i64 (O.of (O.ssize b))), True)
    | some ⟨.sl _, _, _, _⟩, .v (.slice _ n _) => some (.v (.int .i64 (O.of n)), True)
    | some ⟨.sl _, _, _, _⟩, .o r ver =>
      match H[r]? with
      | some (.row _ _ n _ ver') => some (.v (.int .i64 (O.of n)), O.eqn ver ver')
      | some (.buf n _) => some (.v (.int .i64 (O.of n)), O.eqn ver 0)
      | _ => none
    | _, _ => none
  | _ => none

def places (s : Slots) (fs : List (Nat × Nat × Bool)) : List (Nat × Operand) → Option (List (Nat × List SV))
  | [] => some []
  | (i, x) :: r =>
    match fs[i]?, places s fs r with
    | some (off, sz, _), some l => if Nat.beq (cellsOf (opd s x)).length sz && oneL (cellsOf (opd s x)) then some ((off, cellsOf (opd s x)) :: l) else none
    | _, _ => none
def fillC : List SV → List (Nat × List SV) → Option (List SV)
  | cs, [] => some cs
  | cs, (off, xs) :: r => if (off + xs.length).ble cs.length then fillC (setAt cs off xs) r else none

def evBuild (s : Slots) (t : TypeId) (parts : List (Nat × Operand)) : Ans :=
  match lk tab.ty t with
  | some ⟨.st fs, _, z, _⟩ =>
    match places s fs parts with
    | some l => match fillC (zeroCells z) l with | some cs => some (.a cs, True) | none => none
    | none => none
  | _ => none

def evIndexS (x ix : SV) : Ans :=
  match x, ix with
  | .v (.string b), .v (.int _ i) => some (.v (.int .u8 (O.byte b i)), O.inb i (O.ssize b))
  | _, _ => none

def evExtract (x : SV) (i : Nat) : Ans :=
  match x with
  | .t cs => match cs[i]? with | some r => some (r, True) | none => none
  | _ => none

def evNil (x : SV) : Ans :=
  match x with
  | .p i o => some (.p i o, True)
  | .rp cs => some (.rp cs, True)
  | .fn f fs cs => some (.fn f fs cs, True)
  | _ => none

def evConv (sd td : Option TI) (x : SV) : Ans :=
  match sd, td, x with
  | some _, some ⟨.int k, _, _, _⟩, .v (.int _ n) => some (.v (.int k (O.cv k n)), True)
  | _, _, _ => none

def opdO (s : Slots) : Option Operand → Option SV
  | none => none
  | some x => some (opd s x)
/-- A slice of a slice, or of a string. -/
def evSlice (t : TypeId) (x : SV) (lo hi : Option SV) : Ans :=
  match lk tab.ty t, x with
  | some ⟨.sl el, _, _, _⟩, .rs sz n get =>
    match lk tab.ty el with
    | some ei =>
      if Nat.beq ei.size sz then
        match lo, hi with
        | none, none => some (.rs sz n get, True)
        | none, some (.v (.int _ h)) => some (.rs sz (O.nat h) get, O.inc h (O.of n))
        | some (.v (.int _ l)), none => some (.rs sz (O.nsub n (O.nat l)) (fun j => get (O.nadd (O.nat l) j)), O.inc l (O.of n))
        | some (.v (.int _ l)), some (.v (.int _ h)) => some (.rs sz (O.nsub (O.nat h) (O.nat l)) (fun j => get (O.nadd (O.nat l) j)), O.inc l h ∧ O.inc h (O.of n))
        | _, _ => none
      else none
    | none => none
  | some ⟨.str, _, _, _⟩, .v (.string b) =>
    match lo, hi with
    | none, some (.v (.int _ h)) => some (.v (.string (O.sub b 0 h)), O.inc h (O.of (O.ssize b)))
    | some (.v (.int _ l)), none => some (.v (.string (O.sub b l (O.of (O.ssize b)))), O.inc l (O.of (O.ssize b)))
    | some (.v (.int _ l)), some (.v (.int _ h)) => some (.v (.string (O.sub b l h)), O.inc l h ∧ O.inc h (O.of (O.ssize b)))
    | _, _ => none
  | _, _ => none

/-- Contracts of functions that only reckon. -/
abbrev Known := FuncId → List SV → Option (Value × Prop)

/-- Operations that only look: the value, and what is asked. -/
def evalQ (Γ : Known) (s : Slots) (H : Heap) (op : Op) : Ans :=
  match op with
  | .move x => some (opd s x, True)
  | .assign x => some (opd s x, True)
  | .pick c a b => evPick O (opd s c) (opd s a) (opd s b)
  | .unOp op _ x => evUn O op (opd s x)
  | .convert src dst x => evConv O (lk tab.ty src) (lk tab.ty dst) (opd s x)
  | .binOp op t x y _ => match evBin O (lk tab.ty t) op (opd s x) (opd s y) with | some r => some r | none => evEq O (lk tab.eqs t) op (opd s x) (opd s y)
  | .fieldAddr st x f => evFieldAddr tab st (opd s x) f
  | .field st x f => evField tab st (opd s x) f
  | .load t x => evLoad O tab H t (opd s x)
  | .indexAddr t x (.const (.int k i)) => match evIndexAddrC tab t (opd s x) i with | some r => some r | none => evIndexAddr O tab H t (opd s x) (.v (.int k i))
  | .indexAddr t x ix => evIndexAddr O tab H t (opd s x) (opd s ix)
  | .index t x ix => match lk tab.ty t with | some ⟨.str, _, _, _⟩ => evIndexS O (opd s x) (opd s ix) | _ => none
  | .extract x i => evExtract (opd s x) i
  | .slice t x lo hi none => evSlice O tab t (opd s x) (opdO s lo) (opdO s hi)
  | .build t parts => evBuild tab s t parts.toList
  | .nilCheck x => evNil (opd s x)
  | .makeFunc (.func f) first captured => some (.fn f (opds s first.toList) (opds s captured.toList), True)
  | .call { callee := .builtin .len, args, argTypes } => match opds s args.toList with | [x] => evLen O tab H argTypes.toList x | _ => none
  | .call { callee := .builtin .max, args, .. } => match opds s args.toList with | [.v (.int k a), .v (.int _ b)] => some (.v (.int k (O.mx a b)), True) | _ => none
  | .call { callee := .builtin .min, args, .. } => match opds s args.toList with | [.v (.int k a), .v (.int _ b)] => some (.v (.int k (O.mn a b)), True) | _ => none
  | .call { callee := .value (.func f), args, .. } => match scopeL 0 (opds s args.toList), Γ f (opds s args.toList) with | true, some (x, sc) => some (.v x, sc) | _, _ => none
  | _ => none

inductive XT where
  | normal
  | exit (id : Nat)
  | ret

def Imp (p q : Prop) : Prop := p → q

abbrev CallH := FuncId → List SV → Heap → (SV → Heap → Prop) → Prop

def putS (d : Option Nat) (x : SV) (s : Slots) : Slots := match d with | some d => (d, x) :: s | none => s
def dstOk (nt : Nat) (d : Option Nat) : Bool := match d with | some d => Nat.blt d nt | none => true

/-- A literal slice's elements. -/
def chunk (cs : List SV) (sz : Nat) (j : Nat) : List SV := (cs.drop (j * sz)).take sz
def plainS (cs : List SV) : Bool := scopeL 0 cs

def slicePlaces (s : Slots) (sz : Nat) : List (Nat × Operand) → Option (List (Nat × List SV))
  | [] => some []
  | (i, x) :: r =>
    match slicePlaces s sz r with
    | some l => if Nat.beq (cellsOf (opd s x)).length sz && oneL (cellsOf (opd s x)) then some ((i * sz, cellsOf (opd s x)) :: l) else none
    | none => none
def reps (z : List SV) : Nat → List SV
  | 0 => []
  | n + 1 => z ++ reps z n

def app (n : Nat) (g h : Nat → List SV) : Nat → List SV := fun j => bif Nat.blt j n then g j else h (j - n)

def updR (get : Nat → List SV) (j : Nat) (f : List SV → List SV) : Nat → List SV := fun k => bif Nat.beq k j then f (get k) else get k
def updI (get : Nat → Int) (j : Nat) (x : Int) : Nat → Int := fun k => bif Nat.beq k j then x else get k
/-- A string's bytes as a row's elements. -/
def bytesG (O : Leaf) (b : ByteArray) : Nat → List SV := fun j => [.v (.int .u8 (O.byte b (O.of j)))]
/-- A store into a row, or into bytes. -/
def stE (H : Heap) (ti : TI) (x y : SV) (κ : SV → Heap → Prop) : Prop :=
  match x with
  | .e i ver j off =>
    match H[i]? with
    | some (.row ty sz n get ver') =>
      if Nat.beq (cellsOf y).length ti.size && oneL (cellsOf y) && scopeL 0 (cellsOf y) && (off + ti.size).ble sz then
        O.eqn ver ver' ∧ O.le (O.nadd j 1) n ∧ κ .any (H.set i (.row ty sz n (updR get j fun cs => setAt cs off (cellsOf y)) ver')) else False
    | _ => False
  | .pe i 0 1 0 ix =>
    match H[i]?, y with
    | some (.buf n get), .v (.int .u8 c) => if Nat.beq ti.size 1 then O.inb ix n ∧ κ .any (H.set i (.buf n (updI get (O.nat ix) c))) else False
    | _, _ => False
  | _ => False
/-- Operations more. -/
def stepX (s : Slots) (H : Heap) (op : Op) (κ : SV → Heap → Prop) : Prop :=
  match op with
  | .convert src dst x =>
    match lk tab.ty src, lk tab.ty dst, opd s x with
    | some _, some ⟨.sl el, _, _, _⟩, .v (.string b) =>
      match lk tab.ty el with
      | some ⟨.int .u8, _, _, _⟩ => κ (.o H.length 0) (H ++ [.buf (O.ssize b) fun j => O.byte b (O.of j)])
      | _ => False
    | some ⟨.sl el, _, _, _⟩, some ⟨.str, _, _, _⟩, .o r ver =>
      match lk tab.ty el, H[r]? with
      | some ⟨.int .u8, _, _, _⟩, some (.buf n get) => O.eqn ver 0 ∧ ∃ b : ByteArray, O.eqn (O.ssize b) n ∧ (∀ j, j < n → get j = O.byte b (O.of j)) ∧ κ (.v (.string b)) H
      | _, _ => False
    | _, _, _ => False
  | .binOp .eql t x (.const (.slice none 0 0)) _ =>
    match lk tab.ty t, opd s x with
    | some ⟨.sl _, _, _, _⟩, .rs _ n _ => ∀ b : Bool, (b = true → n = 0) → κ (.v (.bool b)) H
    | _, _ => False
  | _ => False

def isNilSlice : Op → Bool
  | .assign (.const (.slice none 0 0)) => true
  | _ => false

/-- Operations that change something. -/
def step (Γ : Known) (call : CallH) (s : Slots) (H : Heap) (o : Oper) (κ : SV → Heap → Prop) : Prop :=
  match isNilSlice o.op with
  | true =>
    match lk tab.ty o.type with
    | some ⟨.sl el, _, _, _⟩ =>
      match lk tab.ty el with
      | some ei => κ (.o H.length 0) (H ++ [.row el ei.size 0 (fun _ => []) 0])
      | none => False
    | _ => False
  | false =>
  match evalQ O tab Γ s H o.op with
  | some (r, sc) => sc ∧ κ r H
  | none =>
  match o.op with
  | .box t x =>
    match lk tab.ty t with
    | some _ => if oneL (cellsOf (opd s x)) then κ (.p H.length 0) (H ++ [.cells (cellsOf (opd s x)) t]) else False
    | none => False
  | .alloc t =>
    match lk tab.ty t with
    | some ti => κ (.p H.length 0) (H ++ [.cells (zeroCells ti.zero) t])
    | none => False
  | .store t x y =>
    match lk tab.ty t, opd s x with
    | some ti, .p i off =>
      match H[i]? with
      | some (.cells cs ty) =>
        if Nat.beq (cellsOf (opd s y)).length ti.size && oneL (cellsOf (opd s y)) && (off + ti.size).ble cs.length then
          κ .any (H.set i (.cells (setAt cs off (cellsOf (opd s y))) ty)) else False
      | _ => False
    | some ti, x' => stE O H ti x' (opd s y) κ
    | _, _ => False
  | .buildSlice t len parts =>
    match lk tab.ty t with
    | some ⟨.sl el, _, _, _⟩ =>
      match lk tab.ty el with
      | some ei =>
        if Nat.beq len 0 && parts.toList.isEmpty then κ (.o H.length 0) (H ++ [.row el ei.size 0 (fun _ => []) 0]) else
        match slicePlaces s ei.size parts.toList with
        | some l =>
          match fillC (reps (zeroCells ei.zero) len) l with
          | some cs => if plainS cs && oneL cs && Nat.ble (len * ei.size) 10000 && Nat.blt 0 (len * ei.size) then κ (.rs ei.size len (chunk cs ei.size)) H else False
          | none => False
        | none => False
      | none => False
    | _ => False
  | .call { callee := .builtin .append, args, argTypes } =>
    match opds s args.toList, argTypes.toList with
    | [.o r ver, .rs sz' m get'], [t1, t2] =>
      match H[r]?, lk tab.ty t1 with
      | some (.row ty sz n get ver'), some ⟨.sl el, _, _, _⟩ =>
        match lk tab.ty ty with
        | some ti => if Nat.beq sz sz' && Nat.blt 0 sz && Nat.beq t1 t2 && Nat.beq el ty && Nat.beq ti.size sz then
            O.eqn ver ver' ∧ O.room (O.nadd n m) ti.bytes ∧ κ (.o r (O.nadd ver' 1)) (H.set r (.row ty sz (O.nadd n m) (app n get get') (O.nadd ver' 1))) else False
        | none => False
      | _, _ => False
    | [.o r ver, .v (.string b)], [t1, t2] =>
      match H[r]?, lk tab.ty t1, lk tab.ty t2 with
      | some (.row ty sz n get ver'), some ⟨.sl el, _, _, _⟩, some ⟨.str, _, _, _⟩ =>
        match lk tab.ty ty with
        | some ⟨.int .u8, s8, .int .u8 z8, by_⟩ => if Nat.beq sz 1 && Nat.beq el ty && Nat.beq by_ 1 && Nat.beq s8 1 && decide (z8 = 0) then
            O.eqn ver ver' ∧ O.room (O.nadd n (O.ssize b)) 1 ∧ κ (.o r (O.nadd ver' 1)) (H.set r (.row ty sz (O.nadd n (O.ssize b)) (app n get (bytesG O b)) (O.nadd ver' 1))) else False
        | _ => False
      | _, _, _ => False
    | _, _ => False
  | .call { callee := .value f, args, .. } =>
    match opd s f with
    | .fn g fs cs => call g (fs ++ opds s args.toList ++ cs) H κ
    | _ => False
  | op => stepX O tab s H op κ

def dstOf (ops : List Oper) (j : Nat) : Nat := match ops[j]? with | some o => o.dst.getD 0 | none => 0

def splitPick (t : Nat) : List Oper → List Oper × List Oper
  | [] => ([], [])
  | o :: rest =>
    match o.op with
    | .pick (.tmp u) _ _ => if Nat.beq u t then ([], o :: rest) else (o :: (splitPick t rest).1, (splitPick t rest).2)
    | _ => (o :: (splitPick t rest).1, (splitPick t rest).2)

def anyS (s : Slots) : List Oper → Slots
  | [] => s
  | o :: rest => match o.dst with | some d => (d, .any) :: anyS s rest | none => anyS s rest

def isKnown (known : List (Nat × Bool)) (g : Option (Nat × Bool)) : Bool :=
  match g with
  | none => true
  | some (j, w) => match lk known j with | some w' => w == w' | none => false

/-- In a group under the guard (j, w): each operation is under it, or under an operation of the group. -/
def inGroup (all : List Oper) (j : Nat) (w : Bool) (t : Nat) : List Nat → List Oper → Bool
  | _, [] => true
  | seen, o :: rest =>
    (match o.guard with | some (i, v) => (Nat.beq i j && v == w) || seen.contains (dstOf all i) | none => false) &&
    (match o.dst with | some d => !Nat.beq d t && inGroup all j w t (d :: seen) rest | none => inGroup all j w t seen rest)

def hasDst (all : List Oper) (j : Nat) : Bool := match all[j]? with | some o => o.dst.isSome | none => false
/-- Is the slot none of those whose guards are taken as known? -/
def freeOf (all : List Oper) : List (Nat × Bool) → Option Nat → Bool
  | _, none => true
  | [], some _ => true
  | (j, _) :: r, some d => !Nat.beq (dstOf all j) d && freeOf all r (some d)
def freeAll (all : List Oper) (known : List (Nat × Bool)) : List Oper → Bool
  | [] => true
  | o :: rest => freeOf all known o.dst && freeAll all known rest
def constB : Operand → Bool
  | .const (.bool _) => true
  | _ => false

/-- Operations that only look, one behind the other; a guarded group comes to the outcome of its pick. -/
def runG (Γ : Known) (nt : Nat) (all : List Oper) (H : Heap) : Nat → List (Nat × Bool) → Slots → List Oper → Option (Slots × Prop)
  | 0, _, _, _ => none
  | _ + 1, _, s, [] => some (s, True)
  | n + 1, known, s, o :: rest =>
    match isKnown known o.guard with
    | true =>
      match dstOk nt o.dst && freeOf all known o.dst, evalQ O tab Γ s H o.op with
      | true, some (r, sc) =>
        match runG Γ nt all H n known (putS o.dst r s) rest with
        | some (s', sc') => some (s', sc ∧ sc')
        | none => none
      | _, _ => none
    | false =>
      match o.guard with
      | some (j, w) =>
        match look s (dstOf all j), splitPick (dstOf all j) (o :: rest) with
        | .v (.bool c), (g, p :: rest') =>
          match inGroup all j w (dstOf all j) [] g && isKnown known p.guard && dstOk nt p.dst && hasDst all j && freeAll all known g && freeOf all known p.dst, runG Γ nt all H n ((j, w) :: known) s g, p.op with
          | true, some (s', sc), .pick _ a b =>
            match opd s' a, opd s' b, (match w with | true => constB b | false => constB a) with
            | .v (.bool x), .v (.bool y), true =>
              match runG Γ nt all H n known (putS p.dst (.v (.bool (O.ite c x y))) (anyS s g)) rest' with
              | some (s'', sc') => some (s'', Imp (c = w) sc ∧ sc')
              | none => none
            | _, _, _ => none
          | _, _, _ => none
        | _, _ => none
      | none => none

/-- Its guard says yes: on both ways where it is not known. -/
def onBool (c w : Bool) (p q : Prop) : Prop :=
  match tab.conc with
  | false => Imp (c = w) p ∧ Imp (c = !w) q
  | true => match c, w with | true, true => p | false, false => p | true, false => q | false, true => q

def ofBool (w : Bool) (a b : Operand) : Operand := match w with | true => a | false => b
def runOps (Γ : Known) (call : CallH) (nt : Nat) (all : List Oper) : Nat → List (Nat × Bool) → List Oper → Slots → Heap → (Slots → Heap → Prop) → Prop
  | 0, _, _, _, _, _ => False
  | _ + 1, _, [], s, H, κ => κ s H
  | n + 1, known, o :: rest, s, H, κ =>
    match isKnown known o.guard with
    | true => if dstOk nt o.dst && freeOf all known o.dst then step O tab Γ call s H o (fun r H' => runOps Γ call nt all n known rest (putS o.dst r s) H' κ) else False
    | false =>
    match o.guard with
    | none => False
    | some (j, w) =>
      match splitPick (dstOf all j) (o :: rest) with
      | (g, p :: rest') =>
        match runG O tab Γ nt all H n known s (g ++ [p]) with
        | some (s', sc) => sc ∧ runOps Γ call nt all n known rest' s' H κ
        | none =>
          match look s (dstOf all j), p.op with
          | .v (.bool c), .pick _ a b =>
            match inGroup all j w (dstOf all j) [] g && isKnown known p.guard && dstOk nt p.dst && hasDst all j && freeAll all known g && freeOf all known p.dst with
            | true =>
              onBool tab c w
                (runOps Γ call nt all n ((j, w) :: known) g s H fun s' H' => runOps Γ call nt all n known rest' (putS p.dst (opd s' (ofBool w a b)) s') H' κ)
                (runOps Γ call nt all n known rest' (putS p.dst (opd (anyS s g) (ofBool w b a)) (anyS s g)) H κ)
            | false => False
          | _, _ => False
      | _ => False

/-! ### Regions that draw their order -/
def isVC : Op → Bool
  | .call { callee := .value _, .. } => true
  | _ => false
def isNew : Op → Bool
  | .box _ _ | .alloc _ | .buildSlice _ _ _ => true
  | _ => false
/-- Does the guard say yes? -/
def guardD (known : List (Nat × Option Bool)) : Option (Nat × Bool) → Option Bool
  | none => some true
  | some (j, w) => match lk known j with | some (some b) => some (b == w) | some none => some false | none => none
def freeD (all : List Oper) : List (Nat × Option Bool) → Option Nat → Bool
  | _, none => true
  | [], some _ => true
  | (j, _) :: r, some d => !Nat.beq (dstOf all j) d && freeD all r (some d)
def isSrc (i : Nat) : List Oper → Bool
  | [] => false
  | o :: r => (match o.guard with | some (j, _) => Nat.beq j i | none => false) || isSrc i r
/-- What is known of the slot that a guard's operation yields. -/
def knownAt (all : List Oper) : List (Nat × Option Bool) → Nat → Option Bool
  | [], _ => none
  | (j, v) :: r, u => match v, hasDst all j && Nat.beq (dstOf all j) u with | some b, true => some b | _, _ => knownAt all r u
def evalD (Γ : Known) (all : List Oper) (known : List (Nat × Option Bool)) (s : Slots) (H : Heap) (op : Op) : Ans :=
  match op with
  | .pick (.tmp u) a b => match knownAt all known u with | some true => some (opd s a, True) | some false => some (opd s b, True) | none => evalQ O tab Γ s H op
  | _ => evalQ O tab Γ s H op
def canTake (Γ : Known) (nt : Nat) (ops : Array Oper) (all : List Oper) (listed : Array Bool) (known : List (Nat × Option Bool)) (s : Slots) (H : Heap) (i : Nat) : Bool :=
  match all[i]? with
  | some o =>
    match dstOk nt o.dst && freeD all known o.dst, guardD known o.guard with
    | true, some false => Region.free .any ops listed i
    | true, some true => (match isVC o.op with | true => false | false => (match evalD O tab Γ all known s H o.op with | some _ => Region.free .any ops listed i | none => false))
    | _, _ => false
  | none => false
def firstD (p : Nat → Bool) : List Nat → Option Nat
  | [] => none
  | i :: r => match p i with | true => some i | false => firstD p r
def allD (p : Nat → Prop) : List Nat → Prop
  | [] => True
  | [i] => p i
  | i :: r => p i ∧ allD p r
/-- Behind operation i. -/
def contD (nt : Nat) (all : List Oper) (i : Nat) (o : Oper) (known : List (Nat × Option Bool)) (s : Slots) (r : SV) (go : List (Nat × Option Bool) → Slots → Prop) : Prop :=
  match isSrc i all with
  | false => go known (putS o.dst r s)
  | true =>
    match r, hasDst all i with
    | .v (.bool c), true => onBool tab c true (go ((i, some true) :: known) (putS o.dst (.v (.bool true)) s)) (go ((i, some false) :: known) (putS o.dst (.v (.bool false)) s))
    | _, _ => False
def effD (Γ : Known) (call : CallH) (s : Slots) (H : Heap) (o : Oper) (κ : SV → Heap → Prop) : Prop :=
  match isVC o.op with
  | true =>
    match evalQ O tab Γ s H o.op with
    | some (r, sc) => sc ∧ κ r H
    | none =>
      match o.op with
      | .call { callee := .value f, args, .. } =>
        match opd s f with
        | .fn g fs cs =>
          match scopeL 0 (fs ++ opds s args.toList ++ cs) with
          | true => call g (fs ++ opds s args.toList ++ cs) [] fun r0 H0 => match frz O H0 60 r0 with | some (r, sc) => sc ∧ κ r H | none => False
          | false => False
        | _ => False
      | _ => False
  | false => match isNew o.op with | true => step O tab Γ call s H o κ | false => False
def runD (Γ : Known) (call : CallH) (nt : Nat) (ops : Array Oper) (all : List Oper) : Nat → Array Bool → List (Nat × Option Bool) → Slots → Heap → (Slots → Heap → Prop) → Prop
  | 0, listed, _, s, H, κ => match Region.ready .any ops listed with | [] => κ s H | _ => False
  | n + 1, listed, known, s, H, κ =>
    match Region.ready .any ops listed with
    | [] => κ s H
    | rs =>
      match firstD (canTake O tab Γ nt ops all listed known s H) rs with
      | some i =>
        match all[i]? with
        | some o =>
          match guardD known o.guard with
          | some false => runD Γ call nt ops all n (listed.setIfInBounds i true) ((i, none) :: known) (putS o.dst .any s) H κ
          | _ => match evalD O tab Γ all known s H o.op with
            | some (r, sc) => sc ∧ contD tab nt all i o known s r fun known' s' => runD Γ call nt ops all n (listed.setIfInBounds i true) known' s' H κ
            | none => False
        | none => False
      | none =>
        allD (fun i =>
          match all[i]? with
          | some o =>
            match dstOk nt o.dst && freeD all known o.dst, guardD known o.guard with
            | true, some true => effD O tab Γ call s H o fun r H' => contD tab nt all i o known s r fun known' s' => runD Γ call nt ops all n (listed.setIfInBounds i true) known' s' H' κ
            | true, some false => runD Γ call nt ops all n (listed.setIfInBounds i true) ((i, none) :: known) (putS o.dst .any s) H κ
            | _, _ => False
          | none => False) rs

def headDone (stop : Nat) (listed : Array Bool) : Bool := (List.range stop).all fun i => listed.getD i false
/-- The same, as far as to the operations from number 'stop' on, which wait for all others and for one another. -/
def runDT (stop : Nat) (Γ : Known) (call : CallH) (nt : Nat) (ops : Array Oper) (all : List Oper) : Nat → Array Bool → List (Nat × Option Bool) → Slots → Heap → (Slots → Heap → Prop) → Prop
  | 0, listed, _, s, H, κ => match headDone stop listed with | true => κ s H | false => False
  | n + 1, listed, known, s, H, κ =>
    match headDone stop listed with
    | true => κ s H
    | false =>
    match Region.ready .any ops listed with
    | [] => False
    | rs =>
      match firstD (canTake O tab Γ nt ops all listed known s H) rs with
      | some i =>
        match all[i]? with
        | some o =>
          match guardD known o.guard with
          | some false => runDT stop Γ call nt ops all n (listed.setIfInBounds i true) ((i, none) :: known) (putS o.dst .any s) H κ
          | _ => match evalD O tab Γ all known s H o.op with
            | some (r, sc) => sc ∧ contD tab nt all i o known s r fun known' s' => runDT stop Γ call nt ops all n (listed.setIfInBounds i true) known' s' H κ
            | none => False
        | none => False
      | none =>
        allD (fun i =>
          match all[i]? with
          | some o =>
            match dstOk nt o.dst && freeD all known o.dst, guardD known o.guard with
            | true, some true => effD O tab Γ call s H o fun r H' => contD tab nt all i o known s r fun known' s' => runDT stop Γ call nt ops all n (listed.setIfInBounds i true) known' s' H' κ
            | true, some false => runDT stop Γ call nt ops all n (listed.setIfInBounds i true) ((i, none) :: known) (putS o.dst .any s) H κ
            | _, _ => False
          | none => False) rs

/-- Operations that only copy, ahead of all others. -/
def runPre (nt : Nat) (ops : List Oper) : List Nat → Slots → Option Slots
  | [], s => some s
  | i :: r, s =>
    match ops[i]? with
    | some { dst := some d, op := .move x, guard := none, .. } =>
      match Nat.blt d nt with
      | true => runPre nt ops r ((d, opd s x) :: s)
      | false => none
    | _ => none
def leS (s : Slots) : Slots → Prop
  | [] => True
  | (t, x) :: r => look s t = x ∧ leS s r
def leB : HB → HB → Prop
  | .cells cs ty, .cells cs' ty' => cs = cs' ∧ ty = ty'
  | .row ty sz n get ver, .row ty' sz' n' get' ver' => ty = ty' ∧ sz = sz' ∧ n = n' ∧ ver = ver' ∧ (∀ j, j < n → get j = get' j)
  | .buf n get, .buf n' get' => n = n' ∧ (∀ j, j < n → get j = get' j)
  | _, .gone => True
  | _, _ => False
def leH : Heap → Heap → Prop
  | _, [] => True
  | h :: H, h' :: H' => leB h h' ∧ leH H H'
  | [], _ :: _ => False
def scopeS (N : Nat) : Slots → Bool
  | [] => true
  | (_, x) :: r => scope N x && scopeS N r
def scopeH (N : Nat) : Heap → Bool
  | [] => true
  | .cells cs _ :: r => scopeL N cs && scopeH N r
  | _ :: r => scopeH N r

/-- A loop, by what holds at each round's head. -/
def Loop (N0 : Nat) (body : Slots → Heap → (XT → Slots → Heap → Prop) → Prop) (s : Slots) (H : Heap) (κ : XT → Slots → Heap → Prop) : Prop :=
  ∃ (ι : Type) (S : ι → Slots) (h : ι → Heap) (μ : ι → Nat) (i0 : ι),
    (∀ i, N0 ≤ (h i).length ∧ scopeS (h i).length (S i) = true ∧ scopeH (h i).length (h i) = true) ∧ leS s (S i0) ∧ leH H (h i0) ∧
    ∀ i, body (S i) (h i) fun e s' H' => match e with
      | .normal => ∃ j, leS s' (S j) ∧ leH H' (h j) ∧ μ j < μ i
      | e => κ e s' H'

/-- Two ways that meet, by what holds where they do. -/
def Join (N0 : Nat) (run : (XT → Slots → Heap → Prop) → Prop) (rest : Slots → Heap → Prop) (κ : XT → Slots → Heap → Prop) : Prop :=
  ∃ (ι : Type) (S : ι → Slots) (h : ι → Heap),
    (∀ i, N0 ≤ (h i).length ∧ scopeS (h i).length (S i) = true ∧ scopeH (h i).length (h i) = true) ∧
    (run fun e s' H' => match e with
      | .normal => ∃ j, leS s' (S j) ∧ leH H' (h j)
      | e => κ e s' H') ∧ ∀ i, rest (S i) (h i)
def mem : List Nat → Nat → Bool
  | [], _ => false
  | x :: xs, t => match Nat.beq x t with | true => true | false => mem xs t
/-- Do the ways meet behind this code? -/
def joins (js : List Nat) : Code → Bool
  | .cond (.tmp t) _ _ => mem js t
  | .seq _ b => joins js b
  | .region id _ _ => mem js (600 + id)     -- the state told anew behind this region
  | _ => false

/-- Which slot's row is read alone from this region on? (10000 + 1000 * region + slot) -/
def fzOf : List Nat → Nat → Option Nat
  | [], _ => none
  | c :: r, id => match Nat.beq (c / 1000) (10 + id) with | true => some (c % 1000) | false => fzOf r id
def frzAt (js : List Nat) (id : Nat) (s : Slots) (H : Heap) (k : Slots → Heap → Prop) : Prop :=
  match fzOf js id with
  | none => k s H
  | some t =>
    match look s t with
    | .o i ver =>
      match H[i]? with
      | some (.row _ sz n get ver') => O.eqn ver ver' ∧ k ((t, .rs sz n get) :: s) (H.set i .gone)
      | _ => False
    | _ => False
/-- Empty slices in new structs that are rows of one's own from this region on. -/
def ghosts : List (Nat × Nat × Nat × Nat) → Nat → List (Nat × Nat × Nat)
  | [], _ => []
  | (r, slot, cell, ty) :: l, id => match Nat.beq r id with | true => (slot, cell, ty) :: ghosts l id | false => ghosts l id
def isNilV : Option SV → Bool
  | some (.v (.slice none 0 0)) => true
  | _ => false
def nilRows (s : Slots) : List (Nat × Nat × Nat) → Heap → Option Heap
  | [], H => some H
  | (slot, cell, ty) :: r, H =>
    match look s slot with
    | .p i off =>
      match H[i]?, lk tab.ty ty with
      | some (.cells cs t), some ti => match isNilV cs[off + cell]? with | true => nilRows s r ((H ++ [HB.row ty ti.size 0 (fun _ => []) 0]).set i (.cells (cs.set (off + cell) (.o H.length 0)) t)) | false => none
      | _, _ => none
    | _ => none
def ghostAt (js : List (Nat × Nat × Nat × Nat)) (id : Nat) (s : Slots) (H : Heap) (k : Slots → Heap → Prop) : Prop :=
  match ghosts js id with
  | [] => k s H
  | gs => match nilRows tab s gs H with | some H' => k s H' | none => False
/-- What is told of a function: where its ways meet, and which regions may be run in the order of the text. -/
structure Cf where
  js : List Nat
  lx : List Nat
  tl : List (Nat × Nat × List Nat × Bool)
  gh : List (Nat × Nat × Nat × Nat)
def sinkP (ops : Array Oper) (n : Nat) (pre : List Nat) : Bool :=
  (List.range n).all fun i => mem pre i || (List.range (n + 1)).any fun j => decide (i < j) && Region.waitsFor .any ops j i
def headArr (n m : Nat) : Array Bool := ((List.range m).map fun i => Nat.blt i n).toArray
/-- Those ahead of the last, but for the copies. -/
def headIx (n : Nat) (pre : List Nat) : List Nat := (List.range n).filter fun i => !mem pre i
def opsAt (ops : Array Oper) : List Nat → List Oper
  | [] => []
  | i :: r => match ops.toList[i]? with | some o => o :: opsAt ops r | none => opsAt ops r
def preArr (ops : Array Oper) (pre : List Nat) : Array Bool := pre.foldl (fun l i => l.setIfInBounds i true) (Array.replicate ops.size false)
def lexHeadP (ops : Array Oper) : List Nat → Array Bool → Bool
  | [], _ => true
  | k :: r, listed => (Region.ready .any ops listed).contains k && Region.free .any ops listed k && lexHeadP ops r (listed.setIfInBounds k true)
def tailOk (ops : Array Oper) (n : Nat) (pre : List Nat) : Bool :=
  Region.noSelect ops && Nat.blt n ops.size && lexHeadP ops pre (Array.replicate ops.size false) && sinkP ops n pre && Region.chainB .any ops n && Region.seqB .any ops (ops.size - n) n (headArr n ops.size) && (pre.all fun i => Nat.blt i n) && Nat.ble pre.length n
def lexAll (lx : List Nat) (tl : List (Nat × Nat × List Nat × Bool)) : Code → Bool
  | .region id ops true => (!mem lx id || Region.lexB .any ops) && (match lk tl id with | some (n, pre, lh) => tailOk ops n pre && (!lh || (lexHeadP ops (headIx n pre) (preArr ops pre) && Nat.beq ((headIx n pre).length + pre.length) n)) | none => true)
  | .seq a b => lexAll lx tl a && lexAll lx tl b
  | .block _ c => lexAll lx tl c
  | .cond _ a b => lexAll lx tl a && lexAll lx tl b
  | .loop c => lexAll lx tl c
  | _ => true
def runC (Γ : Known) (call : CallH) (nt N0 : Nat) (js : Cf) : Code → Slots → Heap → (XT → Slots → Heap → Prop) → Prop
  | .skip, s, H, κ => κ .normal s H
  | .region id ops draw, s, H, κ => frzAt O js.js id s H fun s H => ghostAt tab js.gh id s H fun s H =>
    match draw with
    | false => runOps O tab Γ call nt ops.toList (4 * ops.toList.length + 9) [] ops.toList s H (κ .normal)
    | true =>
      match mem js.lx id, runG O tab Γ nt ops.toList H (4 * ops.toList.length + 9) [] s ops.toList with
      | true, some (s', sc) => sc ∧ κ .normal s' H
      | _, _ =>
        match lk js.tl id with
        | some (n, pre, lh) =>
          match runPre nt ops.toList pre s with
          | some s' =>
            match lh with
            | true => match runG O tab Γ nt ops.toList H (4 * ops.toList.length + 9) [] s' (opsAt ops (headIx n pre)) with
              | some (s'', sc) => sc ∧ runOps O tab Γ call nt ops.toList (4 * ops.toList.length + 9) [] (ops.toList.drop n) s'' H (κ .normal)
              | none => False
            | false => runDT O tab n Γ call nt ops ops.toList (n - pre.length) (preArr ops pre) [] s' H fun s H => runOps O tab Γ call nt ops.toList (4 * ops.toList.length + 9) [] (ops.toList.drop n) s H (κ .normal)
          | none => False
        | none =>
        match Region.noSelect ops with
        | true => runD O tab Γ call nt ops ops.toList ops.size (Array.replicate ops.size false) [] s H (κ .normal)
        | false => False
  | .seq a b, s, H, κ => 
    match joins js.js a with
    | false => runC Γ call nt N0 js a s H fun e s H => match e with | .normal => runC Γ call nt N0 js b s H κ | e => κ e s H
    | true => Join N0 (fun κ' => runC Γ call nt N0 js a s H κ') (fun s H => runC Γ call nt N0 js b s H κ) κ
  | .block id c, s, H, κ => runC Γ call nt N0 js c s H fun e s H => match e with | .exit j => (match Nat.beq j id with | true => κ .normal s H | false => κ (.exit j) s H) | e => κ e s H
  | .exit id, s, H, κ => κ (.exit id) s H
  | .ret, s, H, κ => κ .ret s H
  | .cond c x y, s, H, κ =>
    match opd s c with
    | .v (.bool b) =>
      match tab.conc with
      | false => Imp (b = true) (runC Γ call nt N0 js x s H κ) ∧ Imp (b = false) (runC Γ call nt N0 js y s H κ)
      | true => match b with | true => runC Γ call nt N0 js x s H κ | false => runC Γ call nt N0 js y s H κ
    | _ => False
  | .loop c, s, H, κ => Loop N0 (runC Γ call nt N0 js c) s H κ
  | _, _, _, _ => False

def numb : Nat → List SV → Slots
  | _, [] => []
  | i, x :: xs => (i, x) :: numb (i + 1) xs

def loadR (H : Heap) (t : TypeId) (x : SV) : Option SV :=
  match lk tab.ty t, x with
  | some ti, .p i off =>
    match H[i]? with
    | some (.cells cs _) => if (off + ti.size).ble cs.length then ofCells (rowTD ti.td) ((cs.drop off).take ti.size) else none
    | _ => none
  | _, _ => none
def res1 (s : Slots) (H : Heap) : ResultVar → Option SV
  | .tmp t => some (look s t)
  | .cell a t => loadR tab H t (look s a)
def resL (s : Slots) (H : Heap) : List ResultVar → Option (List SV)
  | [] => some []
  | r :: rs => match res1 tab s H r, resL s H rs with | some x, some xs => some (x :: xs) | _, _ => none
def resOf (s : Slots) (H : Heap) (rs : List ResultVar) : Option SV :=
  match resL tab s H rs with
  | some [] => some (.t [])
  | some [x] => some x
  | some [x, y] => some (.t [x, y])
  | some [x, y, z] => some (.t [x, y, z])
  | some [x, y, z, u] => some (.t [x, y, z, u])
  | _ => none

/-- Contracts of other functions. -/
abbrev Contracts := FuncId → Option (List SV → Heap → (SV → Heap → Prop) → Prop)

def joinsOf (f : FuncId) : List Nat := match lk tab.join f with | some l => l | none => []
def lexOf (f : FuncId) : List Nat := match lk tab.lexs f with | some l => l | none => []
def tailOf (f : FuncId) : List (Nat × Nat × List Nat × Bool) := match lk tab.tails f with | some l => l | none => []
def ghostOf (f : FuncId) : List (Nat × Nat × Nat × Nat) := match lk tab.ghosts f with | some l => l | none => []
def runBody (Γ : Known) (call : CallH) (js : Cf) (fn : Func) (args : List SV) (H : Heap) (κ : SV → Heap → Prop) : Prop :=
  match fn.body with
  | some c => if args.length.ble fn.ntmps then
      runC O tab Γ call fn.ntmps H.length js c (numb 0 args) H fun e s H' =>
        match e with
        | .exit _ => False
        | _ => match resOf tab s H' fn.results.toList with
          | some r => (match scope H.length r && scopeH H.length (H'.take H.length) with | true => κ r (H'.take H.length) | false => κ r H')
          | none => False
      else False
  | none => False

def runF (Γ : Known) (Δ : Contracts) : Nat → CallH
  | 0, _, _, _, _ => False
  | n + 1, f, args, H, κ =>
    match Δ f with
    | some m => m args H κ
    | none =>
      match lk tab.fn f with
      | some fn => runBody O tab Γ (runF Γ Δ n) ⟨joinsOf tab f, lexOf tab f, tailOf tab f, ghostOf tab f⟩ fn args H κ
      | none => False
end
end Go.Sx
