/- The evaluator: what code of the model comes to on abstract values. Definitions alone. -/
import Derived.Calls
import Derived.Laws.Sem
set_option linter.unusedVariables false
namespace Go.Ev
open Go

/-- a cell that is handed on as it is -/
def Raw : Type := {v : Value // v.oneCell' = true}
def Raw.zero : Raw := ⟨.slice none 0 0, rfl⟩

/-- whether it is told that draws go on -/
class Lax where strict : Bool
def DrLe [Lax] (a b : Nat) : Prop := Lax.strict = true → a ≤ b
theorem DrLe.of [Lax] {a b : Nat} (h : a ≤ b) : DrLe a b := fun _ => h
theorem DrLe.refl [Lax] (a : Nat) : DrLe a a := fun _ => Nat.le_refl a
theorem DrLe.trans [Lax] {a b c : Nat} (h : DrLe a b) (k : DrLe b c) : DrLe a c := fun s => Nat.le_trans (h s) (k s)

/-- The kinds of values that the evaluator tells. -/
inductive Kd where
  | int (k : IntKind) | bool | str | raw | err
  | sl (e : TypeId) (k : Kd)
  | st (k : Kd)
  | pair (a b : Kd)
  deriving DecidableEq

@[reducible] def Kd.Ty : Kd → Type
  | .int _ => Int
  | .bool => Bool
  | .err => Bool
  | .str => ByteArray
  | .raw => Raw
  | .sl _ k => List k.Ty
  | .st k => k.Ty
  | .pair a b => a.Ty × b.Ty

def Kd.sz : Kd → Nat
  | .pair a b => a.sz + b.sz
  | .st k => k.sz
  | _ => 1

def Kd.zero : (k : Kd) → k.Ty
  | .int _ => (0 : Int)
  | .bool => false
  | .err => true
  | .str => ByteArray.empty
  | .raw => Raw.zero
  | .sl _ _ => []
  | .st k => k.zero
  | .pair a b => (a.zero, b.zero)

def Kd.noPair : Kd → Bool | .pair _ _ => false | _ => true
def Kd.isSt : Kd → Bool | .st _ => true | _ => false
/-- no slice inside -/
def Kd.plain : Kd → Bool
  | .err => false
  | .sl _ _ => false
  | .st k => k.plain
  | .pair a b => a.plain && b.plain
  | _ => true

/-- no slice inside a slice -/
def Kd.flat : Kd → Bool
  | .err => false
  | .sl _ k => k.plain
  | .raw => false
  | .st k => k.flat
  | .pair a b => a.flat && b.flat
  | _ => true

inductive AV where
  | undef | nil | nilp
  | int (k : IntKind) (n : Int)
  | bool (b : Bool)
  | str (s : ByteArray)
  | sl (id : Nat)
  | ep (id : Nat) (i : Int) (off sz : Nat)
  | ptr (id off : Nat)
  | agg (cs : List AV)
  | tup (vs : List AV)
  | fn (f : FuncId) (caps : List AV)
  /-- a cell as it is -/
  | raw (v : Raw)
  /-- an error: is it nil -/
  | err (b : Bool)
  /-- what is behind the first i elements of a row -/
  | tl (id : Nat) (i : Int) (sz : Nat)
  deriving Inhabited

inductive Blk where
  | row (k : Kd) (e : TypeId) (xs : List k.Ty) (own : Bool)
  | box (t : TypeId) (cs : List AV)
  | dead

structure St where
  s : List (Nat × AV)
  h : List (Nat × Blk)
  n : Nat
  /-- the parameters as they came -/
  g : List AV

def lk {α : Type} : List (Nat × α) → Nat → Option α
  | [], _ => none
  | (k, v) :: l, i => match Nat.beq k i with | true => some v | false => lk l i

def St.slot (st : St) (t : Nat) : AV := match lk st.s t with | some v => v | none => .undef
def blkOf (h : List (Nat × Blk)) (i : Nat) : Blk := match lk h i with | some b => b | none => .dead
def St.blk (st : St) (i : Nat) : Blk := blkOf st.h i

/-- What an operation leaves: its value, rows and boxes that have turned, new ones. -/
structure Eff where
  v : AV
  upd : List (Nat × Blk)
  new : List (Nat × Blk)

def Eff.val (v : AV) : Eff := ⟨v, [], []⟩
def putS (s : List (Nat × AV)) (d : Option Nat) (v : AV) : List (Nat × AV) := match d with | none => s | some d => (d, v) :: s
def St.app (st : St) (d : Option Nat) (e : Eff) : St := ⟨putS st.s d e.v, e.new ++ (e.upd ++ st.h), st.n + e.new.length, st.g⟩

/-! ### parameters and results of functions -/

inductive Pk where
  | ro (k : Kd)
  | wr (k : Kd)
  /-- handed over for good -/
  | mv (k : Kd)
  /-- a nil slice -/
  | nl
  | ptr (t : TypeId) (k : Kd)
  | fn (f : FuncId) (caps : List (TypeId × Kd))
  /-- a variable that is only read -/
  | rb (t : TypeId) (k : Kd)
  /-- a function whose captured variables are only read -/
  | fr (f : FuncId) (caps : List (TypeId × Kd))
def Pk.isRb : Pk → Bool | .rb _ _ | .fr _ _ => true | _ => false

def CapTy : List (TypeId × Kd) → Type | [] => Unit | (_, k) :: l => k.Ty × CapTy l
@[reducible] def Pk.In : Pk → Type | .ro k => k.Ty | .wr k => k.Ty | .mv k => k.Ty | .nl => Unit | .ptr _ k => k.Ty | .fn _ c => CapTy c | .rb _ k => k.Ty | .fr _ c => CapTy c
@[reducible] def Pk.Up : Pk → Type | .ro _ => Unit | .wr k => k.Ty | .mv _ => Unit | .nl => Unit | .ptr _ k => k.Ty | .fn _ c => CapTy c | .rb _ _ => Unit | .fr _ _ => Unit
@[reducible] def Ins : List Pk → Type | [] => Unit | p :: ps => p.In × Ins ps
@[reducible] def Ups : List Pk → Type | [] => Unit | p :: ps => p.Up × Ups ps
@[reducible] def Outs : List (Kd × Bool) → Type | [] => Unit | k :: ks => k.1.Ty × Outs ks

/-- what is known of the world, of blocks that may only be read -/
structure WPre where
  p : World → (Nat → Prop) → Prop
  st : ∀ {w w' : World} {Z Z' : Nat → Prop}, p w Z → (∀ b, Z b → w'.heap[b]? = w.heap[b]?) → (∀ b, Z b → Z' b) → p w' Z'
def WPre.none : WPre := ⟨fun _ _ => True, fun _ _ _ => trivial⟩

structure FSpec where
  ins : List Pk
  out : List (Kd × Bool)
  rel : Ins ins → Outs out → Ups ins → Prop
  call : {R : Type} → Ins ins → (Outs out → Ups ins → Option R) → Option R
  law : ∀ {R : Type} (x : Ins ins) (K : Outs out → Ups ins → Option R) (r : R), call x K = some r → ∃ o u, rel x o u ∧ K o u = some r
  pre : WPre

structure Env where
  nt : Nat
  ty : TypeId → Option Kd
  one : TypeId → Bool
  lim : TypeId → Nat
  /-- the contract of a function, by what it is given -/
  spec : FuncId → List AV → Option FSpec
  pre : WPre
  /-- operations whose result takes over what it is cut or read out of -/
  mv : Nat → Bool

/-! ### operands -/

def constAV : Value → AV
  | .int k n => .int k n
  | .bool b => .bool b
  | .string s => .str s
  | .slice none 0 0 => .nil
  | .pointer none => .nilp
  | .func (.func f) first caps => match first.toList, caps.toList with | [], [] => .fn f [] | _, _ => .undef
  | _ => .undef

def opv (s : St) : Operand → AV
  | .tmp t => s.slot t
  | .const v => constAV v
  | .func f => .fn f []
  | .global _ => .undef

/-- the cells of a value -/
def cellsOf : AV → List AV
  | .agg cs => cs
  | v => [v]

/-! ### typed values out of abstract ones, and back -/

/-- a typed value out of cells, for reading: the value, the cells that are left -/
def reC (h : List (Nat × Blk)) : (k : Kd) → List AV → Option (k.Ty × List AV)
  | .int j, .int i n :: l => if j = i then some (n, l) else none
  | .bool, .bool b :: l => some (b, l)
  | .err, .err b :: l => some (b, l)
  | .str, .str s :: l => some (s, l)
  | .raw, .raw s :: l => some (s, l)
  | .sl _ _, .nil :: l => some ([], l)
  | .sl e k, .sl id :: l => match blkOf h id with
    | .row k' e' xs _ => if hk : k' = k then if e' = e then some (hk ▸ xs, l) else none else none
    | _ => none
  | .st k, l => reC h k l
  | .pair a b, l => match reC h a l with
    | some (x, l) => match reC h b l with
      | some (y, l) => some ((x, y), l)
      | none => none
    | none => none
  | _, _ => none

/-- the same, for handing over: the rows inside, too, which must be owned -/
def reO (h : List (Nat × Blk)) : (k : Kd) → List AV → Option (k.Ty × List AV × List Nat)
  | .int j, .int i n :: l => if j = i then some (n, l, []) else none
  | .bool, .bool b :: l => some (b, l, [])
  | .err, .err b :: l => some (b, l, [])
  | .str, .str s :: l => some (s, l, [])
  | .raw, .raw s :: l => some (s, l, [])
  | .sl _ _, .nil :: l => some ([], l, [])
  | .sl e k, .sl id :: l => match blkOf h id with
    | .row k' e' xs true => if hk : k' = k then if e' = e then some (hk ▸ xs, l, [id]) else none else none
    | _ => none
  | .st k, l => reO h k l
  | .pair a b, l => match reO h a l with
    | some (x, l, i) => match reO h b l with
      | some (y, l, j) => some ((x, y), l, i ++ j)
      | none => none
    | none => none
  | _, _ => none

/-- cells out of a typed value, its rows new from number n on -/
def injC (own : Bool) : (k : Kd) → k.Ty → Nat → List AV × List (Nat × Blk)
  | .int j, x, _ => ([.int j x], [])
  | .bool, x, _ => ([.bool x], [])
  | .err, x, _ => ([.err x], [])
  | .str, x, _ => ([.str x], [])
  | .raw, x, _ => ([.raw x], [])
  | .sl e k, x, n => ([.sl n], [(n, .row k e x own)])
  | .st k, x, n => injC own k x n
  | .pair a b, x, n => ((injC own a x.1 n).1 ++ (injC own b x.2 (n + (injC own a x.1 n).2.length)).1, (injC own a x.1 n).2 ++ (injC own b x.2 (n + (injC own a x.1 n).2.length)).2)

/-- the value of a kind out of its cells -/
def ofCells (k : Kd) (cs : List AV) : AV := match k.isSt with | true => .agg cs | false => match cs with | c :: _ => c | [] => .undef

/-- the part of kind q at cell off of a value -/
def subAt : (k : Kd) → k.Ty → Nat → (q : Kd) → Option q.Ty
  | .st k, x, off, q => if hq : Kd.st k = q then (if off = 0 then some (hq ▸ x) else subAt k x off q) else subAt k x off q
  | .pair a b, x, off, q => if hq : Kd.pair a b = q then (if off = 0 then some (hq ▸ x) else none) else match Nat.blt off a.sz with | true => subAt a x.1 off q | false => subAt b x.2 (off - a.sz) q
  | k, x, off, q => if hq : k = q then (if off = 0 then some (hq ▸ x) else none) else none

/-- the value with another part of the plain kind q at cell off -/
def setAt : (k : Kd) → k.Ty → Nat → (q : Kd) → q.Ty → Option k.Ty
  | .st k, x, off, q, y => if hq : q = Kd.st k then (if off = 0 then some (hq ▸ y) else setAt k x off q y) else setAt k x off q y
  | .pair a b, x, off, q, y => match Nat.blt off a.sz with
    | true => match setAt a x.1 off q y with | some z => some (z, x.2) | none => none
    | false => match setAt b x.2 (off - a.sz) q y with | some z => some (x.1, z) | none => none
  | k, _, off, q, y => if hq : q = k then (if off = 0 then some (hq ▸ y) else none) else none

def rdk (k : Kd) (xs : List k.Ty) (i : Int) : k.Ty := xs.getD i.toNat k.zero

def zeroAVs : Kd → List AV
  | .int k => [.int k 0]
  | .bool => [.bool false]
  | .err => [.err true]
  | .str => [.str ByteArray.empty]
  | .raw => [.raw Raw.zero]
  | .sl _ _ => [.nil]
  | .st k => zeroAVs k
  | .pair a b => zeroAVs a ++ zeroAVs b

def fieldOff : Kd → Nat → Nat
  | .st k, i => fieldOff k i
  | .pair a b, i + 1 => a.sz + fieldOff b i
  | _, _ => 0

/-- the cells from off on exchanged for others -/
def over (cs : List AV) (off : Nat) (ys : List AV) : List AV := cs.take off ++ (ys ++ cs.drop (off + ys.length))

/-- a field's kind -/
def fieldKd : Kd → Nat → Option Kd
  | .st (.pair a b), 0 => some a
  | .st (.pair a b), i + 1 => fieldIn b i
  | .st k, 0 => some k
  | _, _ => none
where
  fieldIn : Kd → Nat → Option Kd
  | .pair a _, 0 => some a
  | .pair _ b, i + 1 => fieldIn b i
  | k, 0 => some k
  | _, _ => none

def AV.isDef : AV → Bool
  | .undef | .agg _ | .tup _ => false
  | _ => true

def bt (s : ByteArray) (i : Int) : Int := ((s.data.toList.getD i.toNat 0).toNat : Int)

/-! ### operations -/

section
variable {R : Type}

def evLoad (env : Env) (t : TypeId) (a : AV) (h : List (Nat × Blk)) (n : Nat) (k : Eff → Option R) : Option R :=
  match a with
  | .ptr id off => match blkOf h id with
    | .box _ cs => match env.ty t with
      | some kd => match Nat.ble (off + kd.sz) cs.length with
        | true => k (.val (ofCells kd ((cs.drop off).take kd.sz)))
        | false => none
      | none => match env.one t, cs.drop off with
        | true, c :: _ => k (.val c)
        | _, _ => none
    | _ => none
  | .ep id i off sz => match blkOf h id, env.ty t with
    | .row rk e xs own, some kd => match Nat.beq sz rk.sz, subAt rk (rdk rk xs i) off kd with
      | true, some y => k ⟨ofCells kd (injC false kd y n).1, (match own, (injC false kd y n).2 with | true, _ :: _ => [(id, .row rk e xs false)] | _, _ => []), (injC false kd y n).2⟩
      | _, _ => none
    | _, _ => none
  | _ => none

def evStore (env : Env) (t : TypeId) (a x : AV) (h : List (Nat × Blk)) (k : Eff → Option R) : Option R :=
  match a with
  | .ptr id off => match blkOf h id with
    | .box t' cs => match (match env.ty t with | some kd => Nat.beq kd.sz (cellsOf x).length | none => env.one t && Nat.beq 1 (cellsOf x).length) && (Nat.ble (off + (cellsOf x).length) cs.length && (cellsOf x).all AV.isDef) with
      | true => k ⟨.undef, [(id, .box t' (over cs off (cellsOf x)))], []⟩
      | false => none
    | _ => none
  | .ep id i off sz => match blkOf h id, env.ty t with
    | .row rk e xs true, some kd => match Nat.beq sz rk.sz && kd.plain, reC [] kd (cellsOf x) with
      | true, some (y, []) => match setAt rk (rdk rk xs i) off kd y with
        | some z => k ⟨.undef, [(id, .row rk e (xs.set i.toNat z) true)], []⟩
        | none => none
      | _, _ => none
    | _, _ => none
  | _ => none

/-- a struct of numbers alone -/
def Kd.ints : Kd → Bool
  | .int _ => true
  | .pair (.int _) b => b.ints
  | _ => false
/-- whether two structs of numbers are the same -/
def eqAV : Kd → List AV → List AV → Option Bool
  | .int j, [.int a x], [.int c y] => match Nat.beq a.ctorIdx j.ctorIdx && Nat.beq c.ctorIdx j.ctorIdx with | true => some (x == y) | false => none
  | .pair (.int j) b, .int a x :: xs, .int c y :: ys => match Nat.beq a.ctorIdx j.ctorIdx && Nat.beq c.ctorIdx j.ctorIdx, eqAV b xs ys with
    | true, some r => some ((x == y) && r)
    | _, _ => none
  | _, _, _ => none

def evBin (env : Env) (t : TypeId) (op : BinOp) (x y : AV) (k : Eff → Option R) : Option R :=
  match x, y with
  | .int j a, .int i b => if j = i then
    match op with
    | .add => k (.val (.int j (j.wrap (a + b))))
    | .sub => k (.val (.int j (j.wrap (a - b))))
    | .mul => k (.val (.int j (j.wrap (a * b))))
    | .quo => cond (b == 0) none (k (.val (.int j (j.wrap (a.tdiv b)))))
    | .rem => cond (b == 0) none (k (.val (.int j (a.tmod b))))
    | .eql => k (.val (.bool (a == b)))
    | .neq => k (.val (.bool (a != b)))
    | .lss => k (.val (.bool (decide (a < b))))
    | .leq => k (.val (.bool (decide (a ≤ b))))
    | .gtr => k (.val (.bool (decide (a > b))))
    | .geq => k (.val (.bool (decide (a ≥ b))))
    | .and => k (.val (.int j (j.wrap (BitVec.ofInt j.bits a &&& BitVec.ofInt j.bits b).toNat)))
    | .or => k (.val (.int j (j.wrap (BitVec.ofInt j.bits a ||| BitVec.ofInt j.bits b).toNat)))
    | .shl => cond (decide (b < 0)) none (k (.val (.int j (j.wrap (a * 2 ^ min b.toNat j.bits)))))
    | .shr => cond (decide (b < 0)) none (k (.val (.int j (a.fdiv (2 ^ min b.toNat j.bits)))))
    | _ => none
    else match op with
    | .shl => cond (decide (b < 0)) none (k (.val (.int j (j.wrap (a * 2 ^ min b.toNat j.bits)))))
    | .shr => cond (decide (b < 0)) none (k (.val (.int j (a.fdiv (2 ^ min b.toNat j.bits)))))
    | _ => none
  | .bool a, .bool b => match env.ty t, op with
    | some .bool, .eql => k (.val (.bool (a == b)))
    | some .bool, .neq => k (.val (.bool (!(a == b))))
    | _, _ => none
  | .str a, .str b => match op with
    | .add => cond (Nat.ble (a.size + b.size) 9223372036854775807) (k (.val (.str (a ++ b)))) none
    | .eql => k (.val (.bool (a.toList == b.toList)))
    | .neq => k (.val (.bool (!(a.toList == b.toList))))
    | .lss => k (.val (.bool (Op.bytesLess a.toList b.toList)))
    | _ => none
  | .agg xs, .agg ys => match env.ty t with
    | some (.st q) => match q.ints, eqAV q xs ys, op with
      | true, some r, .eql => k (.val (.bool r))
      | true, some r, .neq => k (.val (.bool (!r)))
      | _, _, _ => none
    | _ => none
  | _, _ => none

/-- an error against nil -/
def errNil (op : BinOp) (y : Operand) (a : AV) : Option Bool := match op, y, a with
  | .eql, .const .nilIface, .err b => some b
  | .neq, .const .nilIface, .err b => some (!b)
  | _, _, _ => none

def evIndexAddr (env : Env) (t : TypeId) (x ix : AV) (h : List (Nat × Blk)) (k : Eff → Option R) : Option R :=
  match x, ix with
  | .sl id, .int _ i => match blkOf h id, env.ty t with
    | .row rk _ xs _, some (.sl _ q) => match Nat.beq q.sz rk.sz with
      | true => cond (decide (0 ≤ i)) (cond (decide (i < (xs.length : Int))) (k (.val (.ep id i 0 rk.sz))) none) none
      | false => none
    | _, _ => none
  | _, _ => none

def evLen (env : Env) (t : TypeId) (x : AV) (h : List (Nat × Blk)) (k : Eff → Option R) : Option R :=
  match env.ty t, x with
  | some .str, .str s => k (.val (.int .i64 s.size))
  | some (.sl _ _), .nil => k (.val (.int .i64 0))
  | some (.sl _ _), .sl id => match blkOf h id with
    | .row _ _ xs _ => k (.val (.int .i64 xs.length))
    | _ => none
  | _, _ => none

def takeEnds : List (Nat × Blk) → List (Nat × Blk) := fun l => l

/-- the elements that are appended: what dies by it -/
def appSrc (h : List (Nat × Blk)) (e : TypeId) (k : Kd) (x : AV) : Option (List k.Ty × List (Nat × Blk)) :=
  match x with
  | .nil => some ([], [])
  | .sl id => match blkOf h id with
    | .row k' e' ys own => if hk : k' = k then if e' = e then match own, k.plain with
        | _, true => some (hk ▸ ys, [])
        | true, _ => some (hk ▸ ys, [(id, .dead)])
        | _, _ => none
      else none else none
    | _ => none
  | _ => none
def appDst (h : List (Nat × Blk)) (e : TypeId) (k : Kd) (s : AV) : Option (List k.Ty × List (Nat × Blk)) :=
  match s with
  | .nil => some ([], [])
  | .sl id => match blkOf h id with
    | .row k' e' xs true => if hk : k' = k then if e' = e then some (hk ▸ xs, [(id, .dead)]) else none else none
    | _ => none
  | _ => none
def sameId : AV → AV → Bool
  | .sl a, .sl b => Nat.beq a b
  | _, _ => false
def evAppend (env : Env) (t : TypeId) (s x : AV) (h : List (Nat × Blk)) (n : Nat) (k : Eff → Option R) : Option R :=
  match env.ty t with
  | some (.sl e kd) => match appDst h e kd s, appSrc h e kd x, sameId s x with
    | some (xs, u1), some (ys, u2), false => cond (Nat.ble (xs.length + ys.length) (env.lim e)) (k ⟨.sl n, u1 ++ u2, [(n, .row kd e (xs ++ ys) true)]⟩) none
    | _, _, _ => none
  | _ => none

def evMake (env : Env) (t : TypeId) (l c : AV) (n : Nat) (k : Eff → Option R) : Option R :=
  match env.ty t, l, c with
  | some (.sl e kd), .int _ a, .int _ b => cond (a == b) (cond (decide (0 ≤ a)) (cond (decide (a ≤ (env.lim e : Int))) (k ⟨.sl n, [], [(n, .row kd e (List.replicate a.toNat kd.zero) true)]⟩) none) none) none
  | _, _, _ => none

/-- append of so many zeros to nil: what 'append(nil, make(..)...)' is -/
def evGrow (env : Env) (t t' : TypeId) (s x : AV) (n : Nat) (k : Eff → Option R) : Option R :=
  match env.ty t, env.ty t', s, x with
  | some (.sl e kd), some (.int _), .nil, .int _ a => cond (decide (0 ≤ a)) (cond (decide (a ≤ (env.lim e : Int))) (k ⟨.sl n, [], [(n, .row kd e (List.replicate a.toNat kd.zero) true)]⟩) none) none
  | _, _, _, _ => none

/-- what is behind the first i elements is cleared -/
def evClear (env : Env) (t : TypeId) (x : AV) (h : List (Nat × Blk)) (k : Eff → Option R) : Option R :=
  match env.ty t, x with
  | some (.sl e q), .tl id i sz => match blkOf h id with
    | .row rk e' xs true => match Nat.beq sz rk.sz && (rk.plain && decide (q = rk)) with
      | true => k ⟨.tup [], [(id, .row rk e' (xs.take i.toNat ++ List.replicate (xs.length - i.toNat) rk.zero) true)], []⟩
      | false => none
    | _ => none
  | _, _ => none

/-- elements out of operands, one behind the other -/
def litRow (h : List (Nat × Blk)) (k : Kd) : Nat → List (Nat × AV) → Option (List k.Ty × List Nat)
  | _, [] => some ([], [])
  | j, (i, a) :: l => match Nat.beq i j, reO h k (cellsOf a) with
    | true, some (x, [], ids) => match litRow h k (j + 1) l with
      | some (xs, js) => some (x :: xs, ids ++ js)
      | none => none
    | _, _ => none
def nodupB : List Nat → Bool
  | [] => true
  | a :: l => (l.all fun b => !(Nat.beq a b)) && nodupB l
def evBuildSlice (env : Env) (t : TypeId) (len : Nat) (parts : List (Nat × AV)) (h : List (Nat × Blk)) (n : Nat) (k : Eff → Option R) : Option R :=
  match env.ty t with
  | some (.sl e kd) => match litRow h kd 0 parts with
    | some (xs, ids) => match Nat.beq len parts.length && (nodupB ids && Nat.ble (len * kd.sz) 16777216) with
      | true => k ⟨.sl n, ids.map fun i => (i, .dead), [(n, .row kd e xs true)]⟩
      | false => none
    | none => none
  | _ => none

def buildCells (kd : Kd) : List (Nat × AV) → List AV → Option (List AV)
  | [], cs => some cs
  | (f, a) :: l, cs => match fieldKd kd f with
    | some q => match Nat.beq q.sz (cellsOf a).length && ((cellsOf a).all AV.isDef && Nat.ble (fieldOff kd f + q.sz) cs.length) with
      | true => buildCells kd l (over cs (fieldOff kd f) (cellsOf a))
      | false => none
    | none => none
def evBuild (env : Env) (t : TypeId) (parts : List (Nat × AV)) (k : Eff → Option R) : Option R :=
  match env.ty t with
  | some (.st q) => match buildCells (.st q) parts (zeroAVs (.st q)) with
    | some cs => k (.val (.agg cs))
    | none => none
  | _ => none

/-- the text of bytes -/
def bytesS (xs : List Int) : ByteArray := xs.foldl (fun r n => r.push (UInt8.ofNat n.toNat)) ByteArray.empty
def evConvert (env : Env) (src dst : TypeId) (x : AV) (h : List (Nat × Blk)) (k : Eff → Option R) : Option R :=
  match env.ty src, env.ty dst, x with
  | some (.int _), some (.int j), .int _ n => k (.val (.int j (j.wrap n)))
  | some (.int _), some .str, .int _ n => k (.val (.str (Utf8.encode n)))
  | some (.sl e (.int .u8)), some .str, .nil => match env.ty e with
    | some (.int .u8) => k (.val (.str ByteArray.empty))
    | _ => none
  | some (.sl e (.int .u8)), some .str, .sl id => match env.ty e, blkOf h id with
    | some (.int .u8), .row (.int .u8) _ xs _ => k (.val (.str (bytesS xs)))
    | _, _ => none
  | _, _, _ => none

/-- bounds of a cut -/
def cutB (lo hi : Option AV) (len : Int) (k : Int → Int → Option R) : Option R :=
  match lo, hi with
  | none, none => k 0 len
  | some (.int _ a), none => cond (decide (0 ≤ a)) (cond (decide (a ≤ len)) (k a len) none) none
  | none, some (.int _ b) => cond (decide (0 ≤ b)) (cond (decide (b ≤ len)) (k 0 b) none) none
  | some (.int _ a), some (.int _ b) => cond (decide (0 ≤ b)) (cond (decide (b ≤ len)) (cond (decide (0 ≤ a)) (cond (decide (a ≤ b)) (k a b) none) none) none) none
  | _, _ => none
def evSlice (env : Env) (t : TypeId) (x : AV) (lo hi : Option AV) (h : List (Nat × Blk)) (n : Nat) (k : Eff → Option R) : Option R :=
  match env.ty t, x with
  | some .str, .str s => cutB lo hi s.size fun a b => k (.val (.str (s.extract a.toNat b.toNat)))
  | some (.sl e q), .sl id => match blkOf h id with
    | .row rk e' xs own => match Nat.beq q.sz rk.sz with
      | true => cutB lo hi xs.length fun a b => k ⟨.sl n, (match own with | true => [(id, .row rk e' xs false)] | false => []), [(n, .row rk e' ((xs.drop a.toNat).take (b.toNat - a.toNat)) false)]⟩
      | false => none
    | _ => none
  | _, _ => none


/-- a slice whose beginning is all that is left of it -/
def evSliceMv (env : Env) (t : TypeId) (x : AV) (lo hi : Option AV) (h : List (Nat × Blk)) (n : Nat) (k : Eff → Option R) : Option R :=
  match env.ty t, x, lo with
  | some (.sl e q), .sl id, none => match blkOf h id with
    | .row rk e' xs true => match Nat.beq q.sz rk.sz with
      | true => cutB none hi xs.length fun a b => k ⟨.sl n, [(id, .dead)], [(n, .row rk e' (xs.take b.toNat) true)]⟩
      | false => none
    | _ => none
  | some (.sl e q), .sl id, some l => match blkOf h id, hi with
    | .row rk e' xs true, none => match Nat.beq q.sz rk.sz with
      | true => cutB (some l) none xs.length fun a b => k (.val (.tl id a rk.sz))
      | false => none
    | _, _ => none
  | some (.sl _ _), .nil, _ => cutB lo hi 0 fun a b => k (.val .nil)
  | _, _, _ => none

/-- an element that is all that is left of its row -/
def evLoadMv (env : Env) (t : TypeId) (a : AV) (h : List (Nat × Blk)) (n : Nat) (k : Eff → Option R) : Option R :=
  match a with
  | .ep id i 0 sz => match blkOf h id, env.ty t with
    | .row rk e xs true, some kd => match Nat.beq sz rk.sz with
      | true => if hk : rk = kd then k ⟨ofCells kd (injC true kd (hk ▸ rdk rk xs i) n).1, [(id, .dead)], (injC true kd (hk ▸ rdk rk xs i) n).2⟩ else none
      | false => none
    | _, _ => none
  | _ => none

/-- rows among cells, that are only read -/
def roOnly (h : List (Nat × Blk)) : List AV → Bool
  | [] => true
  | .sl id :: l => match blkOf h id with | .row _ _ _ false => roOnly h l | _ => false
  | _ :: l => roOnly h l
def litRo (h : List (Nat × Blk)) (k : Kd) : Nat → List (Nat × AV) → Option (List k.Ty)
  | _, [] => some []
  | j, (i, a) :: l => match Nat.beq i j && roOnly h (cellsOf a), reC h k (cellsOf a) with
    | true, some (x, []) => match litRo h k (j + 1) l with
      | some xs => some (x :: xs)
      | none => none
    | _, _ => none
/-- a new row of elements that are only read -/
def evBuildRo (env : Env) (t : TypeId) (len : Nat) (parts : List (Nat × AV)) (h : List (Nat × Blk)) (n : Nat) (k : Eff → Option R) : Option R :=
  match env.ty t with
  | some (.sl e kd) => match litRo h kd 0 parts with
    | some xs => match Nat.beq len parts.length && Nat.ble (len * kd.sz) 16777216 with
      | true => k ⟨.sl n, [], [(n, .row kd e xs false)]⟩
      | false => none
    | none => none
  | _ => none
def isLit (env : Env) (t : TypeId) (parts : List (Nat × AV)) (h : List (Nat × Blk)) : Bool :=
  match env.ty t with
  | some (.sl _ kd) => match litRow h kd 0 parts with | some _ => true | none => false
  | _ => true
def mvd (env : Env) : Option Nat → Bool | some d => env.mv d | none => false

/-! ### calls -/

def AV.isAgg : AV → Bool | .agg _ => true | _ => false

/-- the rows of the call's own among cells -/
def ownIn (h : List (Nat × Blk)) : List AV → List Nat
  | [] => []
  | .sl id :: l => match blkOf h id with | .row _ _ _ true => id :: ownIn h l | _ => ownIn h l
  | _ :: l => ownIn h l
/-- the cells of the boxes that pointers lead to -/
def boxIn (h : List (Nat × Blk)) : List AV → List AV
  | [] => []
  | .ptr id _ :: l => match blkOf h id with | .box _ cs => cs ++ boxIn h l | _ => boxIn h l
  | _ :: l => boxIn h l

def freezeL (h : List (Nat × Blk)) : List Nat → List (Nat × Blk)
  | [] => []
  | i :: l => match blkOf h i with | .row k e xs true => (i, .row k e xs false) :: freezeL h l | _ => freezeL h l

/-- the rows among cells -/
def slIds : List AV → List Nat
  | [] => []
  | .sl id :: l => id :: slIds l
  | _ :: l => slIds l
/-- the numbers that are handed over to be written -/
def handed1 : Pk → AV → List Nat
  | .wr _, a => slIds (cellsOf a)
  | .mv _, a => slIds (cellsOf a)
  | .ptr _ _, .ptr id _ => [id]
  | .fn _ _, .fn _ caps => caps.flatMap fun | .ptr id _ => [id] | _ => []
  | _, _ => []
def handed : List Pk → List AV → List Nat
  | p :: ps, a :: as => handed1 p a ++ handed ps as
  | _, _ => []

/-- what must be frozen ahead of a call whose results may share -/
def frz1 (h : List (Nat × Blk)) : Pk → AV → List Nat
  | .ro _, a => ownIn h (cellsOf a)
  | .ptr _ _, a => ownIn h (boxIn h [a])
  | .fn _ _, .fn _ caps => ownIn h (boxIn h caps)
  | _, _ => []
def frz (h : List (Nat × Blk)) : List Pk → List AV → List Nat
  | p :: ps, a :: as => frz1 h p a ++ frz h ps as
  | _, _ => []
def Pk.shares : Pk → Bool | .ptr _ k => !k.plain | .fn _ l => l.any fun p => !p.2.plain | _ => false
def FSpec.shares (sp : FSpec) : Bool := sp.ins.any Pk.shares || sp.out.any fun p => !p.2

def frzIds (sp : FSpec) (h : List (Nat × Blk)) (as : List AV) : List Nat := match sp.shares with | true => frz h sp.ins as | false => []

/-- typed captured variables -/
def capsT (h h2 : List (Nat × Blk)) : (l : List (TypeId × Kd)) → List AV → Option (CapTy l)
  | [], [] => some ()
  | (t, k) :: l, .ptr id off :: as => match blkOf h id with
    | .box t' cs => match Nat.beq t' t && Nat.beq off 0, reC h2 k cs with
      | true, some (x, []) => match capsT h h2 l as with
        | some y => some (x, y)
        | none => none
      | _, _ => none
    | _ => none
  | _, _ => none
/-- what a pointer leads to, for reading -/
def rbT (h2 : List (Nat × Blk)) (t : TypeId) (k : Kd) : AV → Option k.Ty
  | .ptr id off => match blkOf h2 id with
    | .box t' cs => match Nat.beq t' t && (Nat.beq off 0 && Nat.beq cs.length k.sz), reC h2 k cs with
      | true, some (x, []) => some x
      | _, _ => none
    | _ => none
  | .ep id i 0 sz => match blkOf h2 id with
    | .row k' e xs _ => if hk : k' = k then (match Nat.beq sz k.sz with
      | true => some (rdk k (hk ▸ xs) i)
      | false => none) else none
    | _ => none
  | _ => none
def rbsT (h2 : List (Nat × Blk)) : (l : List (TypeId × Kd)) → List AV → Option (CapTy l)
  | [], [] => some ()
  | (t, k) :: l, a :: as => match rbT h2 t k a with
    | some x => match rbsT h2 l as with
      | some y => some (x, y)
      | none => none
    | none => none
  | _, _ => none
def argT (h h2 : List (Nat × Blk)) : (p : Pk) → AV → Option p.In
  | .ro k, a => match a.isAgg == k.isSt, reC h2 k (cellsOf a) with
    | true, some (x, []) => some x
    | _, _ => none
  | .wr k, a => match a.isAgg == k.isSt, reO h k (cellsOf a) with
    | true, some (x, [], _) => some x
    | _, _ => none
  | .mv k, a => match a.isAgg == k.isSt, reO h k (cellsOf a) with
    | true, some (x, [], _) => some x
    | _, _ => none
  | .nl, .nil => some ()
  | .ptr t k, .ptr id off => match blkOf h id with
    | .box t' cs => match Nat.beq t' t && Nat.beq off 0, reC h2 k cs with
      | true, some (x, []) => some x
      | _, _ => none
    | _ => none
  | .fn f l, .fn f' caps => match Nat.beq f' f with
    | true => capsT h h2 l caps
    | false => none
  | .rb t k, a => rbT h2 t k a
  | .fr f l, .fn f' caps => match Nat.beq f' f with
    | true => rbsT h2 l caps
    | false => none
  | _, _ => none
def argsT (h h2 : List (Nat × Blk)) : (ps : List Pk) → List AV → Option (Ins ps)
  | [], [] => some ()
  | p :: ps, a :: as => match argT h h2 p a with
    | some x => match argsT h h2 ps as with
      | some y => some (x, y)
      | none => none
    | none => none
  | _, _ => none

/-- what has turned behind a call: rows and boxes, with new rows from number n on -/
def capsU : (l : List (TypeId × Kd)) → List AV → CapTy l → Nat → List (Nat × Blk)
  | (t, k) :: l, .ptr id _ :: as, x, n => capsU l as x.2 (n + ((id, Blk.box t (injC false k x.1 n).1) :: (injC false k x.1 n).2).length) ++ ((id, .box t (injC false k x.1 n).1) :: (injC false k x.1 n).2)
  | _, _, _, _ => []
/-- new contents for the rows of cells; the cells that are left -/
def putO : (k : Kd) → List AV → k.Ty → List (Nat × Blk) × List AV
  | .sl e k, .sl id :: l, u => ([(id, .row k e u true)], l)
  | .sl _ _, l, _ => ([], l.tail)
  | .st k, l, u => putO k l u
  | .pair a b, l, u => ((putO b (putO a l u.1).2 u.2).1 ++ (putO a l u.1).1, (putO b (putO a l u.1).2 u.2).2)
  | _, l, _ => ([], l.tail)
def argU : (p : Pk) → AV → p.Up → Nat → List (Nat × Blk)
  | .wr k, a, u, _ => (putO k (cellsOf a) u).1
  | .ptr t k, .ptr id _, u, n => (id, .box t (injC false k u n).1) :: (injC false k u n).2
  | .fn _ l, .fn _ caps, u, n => capsU l caps u n
  | _, _, _, _ => []
def argsU : (ps : List Pk) → List AV → Ups ps → Nat → List (Nat × Blk)
  | p :: ps, a :: as, u, n => argsU ps as u.2 (n + (argU p a u.1 n).length) ++ argU p a u.1 n
  | _, _, _, _ => []
/-- the results -/
def outsA : (l : List (Kd × Bool)) → Outs l → Nat → List AV × List (Nat × Blk)
  | [], _, _ => ([], [])
  | k :: l, x, n => (ofCells k.1 (injC k.2 k.1 x.1 n).1 :: (outsA l x.2 (n + (injC k.2 k.1 x.1 n).2.length)).1, (outsA l x.2 (n + (injC k.2 k.1 x.1 n).2.length)).2 ++ (injC k.2 k.1 x.1 n).2)
def retA : List AV → AV
  | [a] => a
  | l => .tup l
def deads (l : List Nat) : List (Nat × Blk) := l.map fun i => (i, Blk.dead)

def evCall (env : Env) (f : FuncId) (as : List AV) (h : List (Nat × Blk)) (n : Nat) (k : Eff → Option R) : Option R :=
  match env.spec f as with
  | none => none
  | some sp =>
    match !(sp.shares && sp.ins.any Pk.isRb) && (nodupB (handed sp.ins as) && (handed sp.ins as).all (fun i => (frzIds sp h as).all fun j => !(Nat.beq i j))), argsT h (deads (handed sp.ins as) ++ (freezeL h (frzIds sp h as) ++ h)) sp.ins as with
    | true, some x => sp.call x fun o u =>
      k ⟨retA (outsA sp.out o (n + (argsU sp.ins as u n).length)).1, deads (handed sp.ins as) ++ freezeL h (frzIds sp h as), (outsA sp.out o (n + (argsU sp.ins as u n).length)).2 ++ argsU sp.ins as u n⟩
    | _, _ => none

def isCap : AV → Bool | .undef | .fn _ _ | .agg _ | .tup _ => false | _ => true

def evOp (env : Env) (o : Oper) (s : St) (k : Eff → Option R) : Option R :=
  match o.op with
  | .move x => k (.val (opv s x))
  | .assign x => k (.val (opv s x))
  | .pick c a b => match opv s c with
    | .bool c => match opv s a, opv s b with
      | .bool x, .bool y => k (.val (.bool (cond c x y)))
      | x, y => cond c (k (.val x)) (k (.val y))
    | _ => none
  | .alloc t => match env.ty t with
    | some kd => k ⟨.ptr s.n 0, [], [(s.n, .box t (zeroAVs kd))]⟩
    | none => none
  | .box t x => match (cellsOf (opv s x)).all AV.isDef with
    | true => k ⟨.ptr s.n 0, [], [(s.n, .box t (cellsOf (opv s x)))]⟩
    | false => none
  | .build t ps => evBuild env t (ps.toList.map fun p => (p.1, opv s p.2)) k
  | .buildSlice t len ps => match isLit env t (ps.toList.map fun p => (p.1, opv s p.2)) s.h with
    | true => evBuildSlice env t len (ps.toList.map fun p => (p.1, opv s p.2)) s.h s.n k
    | false => evBuildRo env t len (ps.toList.map fun p => (p.1, opv s p.2)) s.h s.n k
  | .load t a => match mvd env o.dst with
    | true => evLoadMv env t (opv s a) s.h s.n k
    | false => evLoad env t (opv s a) s.h s.n k
  | .store t a x => evStore env t (opv s a) (opv s x) s.h k
  | .nilCheck x => match opv s x with
    | .ptr i f => k (.val (.ptr i f))
    | .ep i j f z => k (.val (.ep i j f z))
    | _ => none
  | .binOp op t x y _ => match errNil op y (opv s x), env.ty t with
    | some b, some .err => k (.val (.bool b))
    | _, _ => evBin env t op (opv s x) (opv s y) k
  | .unOp .not _ x => match opv s x with | .bool b => k (.val (.bool (!b))) | _ => none
  | .unOp .neg _ x => match opv s x with | .int j m => k (.val (.int j (j.wrap (0 - m)))) | _ => none
  | .convert src dst x => evConvert env src dst (opv s x) s.h k
  | .makeFunc (.func f) first caps => match first.toList, (caps.toList.map (opv s)).all isCap with
    | [], true => k (.val (.fn f (caps.toList.map (opv s))))
    | _, _ => none
  | .makeSlice t l c => evMake env t (opv s l) (opv s c) s.n k
  | .slice t x lo hi none => match mvd env o.dst with
    | true => evSliceMv env t (opv s x) (lo.map (opv s)) (hi.map (opv s)) s.h s.n k
    | false => evSlice env t (opv s x) (lo.map (opv s)) (hi.map (opv s)) s.h s.n k
  | .fieldAddr t x f => match env.ty t with
    | some kd => match fieldKd kd f, opv s x with
      | some _, .ptr id off => k (.val (.ptr id (off + fieldOff kd f)))
      | some _, .ep id i off sz => k (.val (.ep id i (off + fieldOff kd f) sz))
      | _, _ => none
    | none => none
  | .indexAddr t x i => evIndexAddr env t (opv s x) (opv s i) s.h k
  | .index t x i => match env.ty t, opv s x, opv s i with
    | some .str, .str b, .int _ j => cond (decide (0 ≤ j)) (cond (decide (j < (b.size : Int))) (k (.val (.int .u8 (bt b j)))) none) none
    | _, _, _ => none
  | .extract x i => match opv s x with
    | .tup vs => match vs[i]? with
      | some v => k (.val v)
      | none => none
    | _ => none
  | .call c => match c.callee, c.args.toList, c.argTypes.toList with
    | .builtin .len, [x], [t] => evLen env t (opv s x) s.h k
    | .builtin .cap, [x], [t] => match env.ty t, opv s x with
      | some (.sl _ _), .nil => k (.val (.int .i64 0))
      | _, _ => none
    | .builtin .append, [x, y], [t, t'] => match Nat.beq t t' with
      | true => evAppend env t (opv s x) (opv s y) s.h s.n k
      | false => evGrow env t t' (opv s x) (opv s y) s.n k
    | .builtin .clear, [x], [t] => evClear env t (opv s x) s.h k
    | .builtin .min, [x, y], _ => match opv s x, opv s y with
      | .int j a, .int _ b => k (.val (.int j (cond (decide (b < a)) b a)))
      | _, _ => none
    | .builtin .max, [x, y], _ => match opv s x, opv s y with
      | .int j a, .int _ b => k (.val (.int j (cond (decide (b > a)) b a)))
      | _, _ => none
    | .value g, as, _ => match opv s g with
      | .fn f caps => evCall env f (as.map (opv s) ++ caps) s.h s.n k
      | _ => none
    | _, _, _ => none
  | _ => none

end
end Go.Ev
