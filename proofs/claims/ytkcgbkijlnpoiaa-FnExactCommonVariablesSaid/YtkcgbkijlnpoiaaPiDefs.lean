/- The words of a verified generator of verification conditions: pure data, types with ownership, frames, and what each piece of code asks. -/
import Derived.Calls
import Derived.Orders
namespace Go.Pi

/-- Pure data. -/
inductive D where
  | i (n : Int)
  | b (v : Bool)
  | s (v : ByteArray)
  | p (x y : D)
  | l (xs : List D) (z : Bool)
  | u
  deriving Inhabited

def D.toI : D → Int | .i n => n | _ => 0
def D.toB : D → Bool | .b v => v | _ => false
def D.toS : D → ByteArray | .s v => v | _ => ⟨#[]⟩
def D.fst : D → D | .p x _ => x | _ => .u
def D.snd : D → D | .p _ y => y | _ => .u
def D.toL : D → List D | .l xs _ => xs | _ => []
def D.toZ : D → Bool | .l _ z => z | _ => true

/-- Static types. 'sl true e', 'bx true e': a slice, a box that its holder owns alone; with 'false': one that is only read. 'clo f c': a function value and what it captured. 'tnil', 'tcons': several results. 'gone': what has been taken away; 'hole': a cell of memory whose slice has been taken away; 'iter': where a loop over a string stands. -/
inductive Ty where
  | int (k : IntKind)
  | bool
  | str
  | unit
  | pair (a b : Ty)
  | sl (own : Bool) (e : Ty)
  | bx (own : Bool) (e : Ty)
  | clo (f : FuncId) (c : Ty)
  | tnil
  | tcons (a b : Ty)
  | gone
  | hole
  | iter
  deriving DecidableEq, Inhabited

def Ty.size : Ty → Nat
  | .pair a b => a.size + b.size
  | .unit | .tnil | .tcons .. | .gone => 0
  | _ => 1

def Ty.hasOwn : Ty → Bool
  | .sl o _ | .bx o _ => o
  | .pair a b | .tcons a b => a.hasOwn || b.hasOwn
  | .iter => true
  | _ => false

/-- A type whose values can lie in memory. -/
def Ty.mem : Ty → Bool
  | .int _ | .bool | .str | .unit | .clo .. => true
  | .pair a b => a.mem && b.mem
  | .sl _ e | .bx _ e => e.mem
  | _ => false

/-- The same type without any ownership. -/
def Ty.frz : Ty → Ty
  | .pair a b => .pair a.frz b.frz
  | .tcons a b => .tcons a.frz b.frz
  | .sl _ e => .sl false e.frz
  | .bx _ e => .bx false e.frz
  | .iter => .hole
  | t => t

def Ty.isAgg : Ty → Bool
  | .pair .. | .unit => true
  | _ => false

/-- The value that consists of some cells. -/
def mkV (t : Ty) (cs : List Value) : Value :=
  match t with
  | .pair .. | .unit => .agg cs.toArray
  | .tcons .. | .tnil => .tuple cs.toArray
  | _ => cs.headD undef

/-- Some cells lie at a place. -/
def lies (w : World) (g o : Nat) (cs : List Value) : Prop := ∀ (j : Nat) (v : Value), cs[j]? = some v → w.cell? ⟨g, o + j, none⟩ = some v

/-- What the cells of a value tell: the data can be read from blocks in S. -/
def rd (w : World) (S : Nat → Prop) : Ty → D → List Value → Prop
  | .int k, d, cs => cs = [.int k d.toI]
  | .bool, d, cs => cs = [.bool d.toB]
  | .str, d, cs => cs = [.string d.toS]
  | .unit, _, cs => cs = []
  | .pair a b, d, cs => ∃ c1 c2, cs = c1 ++ c2 ∧ c1.length = a.size ∧ rd w S a d.fst c1 ∧ rd w S b d.snd c2
  | .sl _ e, d, cs => ∃ A cap, cs = [.slice A d.toL.length cap] ∧ d.toZ = A.isNone ∧ (A = none → cap = 0) ∧ d.toL.length ≤ cap ∧
      ∀ (i : Nat) (x : D), d.toL[i]? = some x → ∃ a cells, A = some a ∧ a.spot = none ∧ S a.block ∧ cells.length = e.size ∧ rd w S e x cells ∧ lies w a.block (a.off + i * e.size) cells
  | .bx _ e, d, cs => ∃ a cells, cs = [.pointer (some a)] ∧ a.spot = none ∧ S a.block ∧ cells.length = e.size ∧ rd w S e d cells ∧ lies w a.block a.off cells
  | .clo f c, d, cs => ∃ cv, cs = [.func (.func f) #[] (cv : List Value).toArray] ∧ rd w S c d cv
  | .tnil, _, cs => cs = []
  | .tcons a b, d, cs => ∃ c1 c2, cs = mkV a c1 :: c2 ∧ rd w S a d.fst c1 ∧ rd w S b d.snd c2
  | .gone, _, _ => True
  | .hole, _, cs => cs.length = 1
  | .iter, _, cs => cs.length = 1

/-- The same, where slices and boxes that are owned lie in blocks in O, each block in one place alone; the others are read from blocks in S. -/
def rep (w : World) (S : Nat → Prop) : Ty → (Nat → Prop) → D → List Value → Prop
  | .pair a b, O, d, cs => ∃ c1 c2, ∃ f : Nat → Bool, cs = c1 ++ c2 ∧ c1.length = a.size ∧ rep w S a (fun x => O x ∧ f x = true) d.fst c1 ∧ rep w S b (fun x => O x ∧ f x = false) d.snd c2
  | .sl true e, O, d, cs => (cs = [.slice none 0 0] ∧ d.toL = [] ∧ d.toZ = true) ∨
      ∃ g o cap c te, cs = [.slice (some ⟨g, o, none⟩) d.toL.length cap] ∧ d.toZ = false ∧ O g ∧ w.heap[g]? = some (.cells c te (0, 0)) ∧
        o + cap * e.size ≤ c.size ∧ d.toL.length ≤ cap ∧
        ∃ f : Nat → Nat, ∀ (i : Nat) (x : D), d.toL[i]? = some x → ∃ cells, cells.length = e.size ∧ rep w S e (fun b => (O b ∧ b ≠ g) ∧ f b = i) x cells ∧ lies w g (o + i * e.size) cells
  | .bx true e, O, d, cs => ∃ g c te cells, cs = [.pointer (some ⟨g, 0, none⟩)] ∧ O g ∧ w.heap[g]? = some (.cells c te (0, 0)) ∧ c.size = e.size ∧
        cells.length = e.size ∧ rep w S e (fun b => O b ∧ b ≠ g) d cells ∧ lies w g 0 cells
  | .iter, O, d, cs => ∃ g, cs = [.pointer (some ⟨g, 0, none⟩)] ∧ O g ∧ w.heap[g]? = some (.stringIter d.fst.toS d.snd.toI.toNat)
  | .tcons a b, O, d, cs => ∃ c1 c2, ∃ f : Nat → Bool, cs = mkV a c1 :: c2 ∧ rep w S a (fun x => O x ∧ f x = true) d.fst c1 ∧ rep w S b (fun x => O x ∧ f x = false) d.snd c2
  | t, _, d, cs => rd w S t d cs

/-- A look at what is owned by another: owned parts are read from blocks in S', the others from blocks in S. -/
def look (w : World) (S S' : Nat → Prop) : Ty → D → List Value → Prop
  | .pair a b, d, cs => ∃ c1 c2, cs = c1 ++ c2 ∧ c1.length = a.size ∧ look w S S' a d.fst c1 ∧ look w S S' b d.snd c2
  | .sl true e, d, cs => ∃ A cap, cs = [.slice A d.toL.length cap] ∧ d.toZ = A.isNone ∧ (A = none → cap = 0) ∧ d.toL.length ≤ cap ∧
      ∀ (i : Nat) (x : D), d.toL[i]? = some x → ∃ a cells, A = some a ∧ a.spot = none ∧ S' a.block ∧ cells.length = e.size ∧ look w S S' e x cells ∧ lies w a.block (a.off + i * e.size) cells
  | .bx true e, d, cs => ∃ a cells, cs = [.pointer (some a)] ∧ a.spot = none ∧ S' a.block ∧ cells.length = e.size ∧ look w S S' e d cells ∧ lies w a.block a.off cells
  | .iter, d, cs => ∃ g, cs = [.pointer (some ⟨g, 0, none⟩)] ∧ S' g ∧ w.heap[g]? = some (.stringIter d.fst.toS d.snd.toI.toNat)
  | .tcons a b, d, cs => ∃ c1 c2, cs = mkV a c1 :: c2 ∧ look w S S' a d.fst c1 ∧ look w S S' b d.snd c2
  | t, d, cs => rd w S t d cs

inductive Step where
  | idx (i sz : Nat)
  | fst
  | snd (sz : Nat)
  | deref

abbrev Path := List Step

def D.get : D → Path → D
  | d, [] => d
  | d, .idx j _ :: π => (d.toL.getD j .u).get π
  | d, .fst :: π => d.fst.get π
  | d, .snd _ :: π => d.snd.get π
  | d, .deref :: π => d.get π

def D.upd : D → Path → D → D
  | _, [], x => x
  | d, .idx j _ :: π, x => .l (d.toL.set j ((d.toL.getD j .u).upd π x)) d.toZ
  | d, .fst :: π, x => .p (d.fst.upd π x) d.snd
  | d, .snd _ :: π, x => .p d.fst (d.snd.upd π x)
  | d, .deref :: π, x => d.upd π x

/-- The type at a place. -/
def Ty.at : Ty → Path → Option Ty
  | t, [] => some t
  | .sl true e, .idx _ z :: π => bif Nat.beq e.size z then e.at π else none
  | .bx true e, .deref :: π => e.at π
  | .pair a _, .fst :: π => a.at π
  | .pair a b, .snd z :: π => bif Nat.beq a.size z then b.at π else none
  | _, _ => none

/-- Another type at a place. -/
def Ty.set : Ty → Path → Ty → Ty
  | _, [], x => x
  | .bx o e, .deref :: π, x => .bx o (e.set π x)
  | .pair a b, .fst :: π, x => .pair (a.set π x) b
  | .pair a b, .snd _ :: π, x => .pair a (b.set π x)
  | t, _, _ => t

/-- Inside a place of memory: no way through another slice or box. -/
def flatPath : Path → Bool
  | [] => true
  | .fst :: π | .snd _ :: π => flatPath π
  | _ => false

/-- A place's way from an address in memory on leads to (g', o'), through blocks in X. -/
def goL (w : World) (X : Nat → Prop) (g' o' : Nat) : Nat → Nat → Path → Prop
  | g, o, [] => g = g' ∧ o = o'
  | g, o, .fst :: π => goL w X g' o' g o π
  | g, o, .snd z :: π => goL w X g' o' g (o + z) π
  | g, o, .idx i z :: π => ∃ b n c, X g ∧ w.cell? ⟨g, o, none⟩ = some (.slice (some b) n c) ∧ goL w X g' o' b.block (b.off + i * z) π
  | g, o, .deref :: π => ∃ b, X g ∧ w.cell? ⟨g, o, none⟩ = some (.pointer (some b)) ∧ goL w X g' o' b.block b.off π

/-- The place of a slot's value lies at (g', o'). -/
def placeL (w : World) (X : Nat → Prop) (v : Value) (g' o' : Nat) : Path → Prop
  | .idx i z :: π => ∃ b n c, v = .slice (some b) n c ∧ goL w X g' o' b.block (b.off + i * z) π
  | .deref :: π => ∃ b, v = .pointer (some b) ∧ goL w X g' o' b.block b.off π
  | _ => False

/-- What a frame's slot is known to hold. -/
inductive Ent where
  /-- a value: what it owns is its own -/
  | val (t : Ty) (d : D)
  /-- a look at (a part of) the value of slot r; with a place: it is just the value at that place -/
  | pk (t : Ty) (d : D) (r : Nat) (π : Option Path)
  /-- a pointer to a place of slot r's value -/
  | pt (t : Ty) (d : D) (r : Nat) (π : Option Path)
  /-- a slice of which the length alone is known -/
  | hd (d : D)

def Ent.root : Ent → Option Nat
  | .pk _ _ r _ | .pt _ _ r _ => some r
  | _ => none

def Fr := Nat → Option Ent

def Fr.clr (F : Fr) (r : Nat) : Fr := fun t => match F t with
  | some e => match e.root with
    | some q => bif Nat.beq q r then none else some e
    | none => some e
  | none => none

def Fr.put (F : Fr) (d : Nat) (e : Ent) : Fr := fun t => bif Nat.beq t d then some e else F.clr d t
def Fr.drop (F : Fr) (d : Nat) : Fr := fun t => bif Nat.beq t d then none else F.clr d t

/-- What is known of a type of the program. -/
inductive TI where
  | none
  | base (t : Ty)
  | slice (e : Nat) (bytes : Nat) (et : Ty)
  | struct (fs : List (Nat × Nat)) (t : Ty)

inductive PM where
  | bor | ino | tak
  deriving DecidableEq

structure Sg where
  ps : List (PM × Ty)
  rs : List Ty

structure Env where
  T : Nat → TI
  /-- a function's signature; the list: which functions its arguments that are functions are -/
  sg : Nat → List Nat → Option Sg
  sat : Nat → List Nat → List D → List D → Prop

/-- What one function's code is annotated with: of operations (1: the moved value is taken; 2: its root is frozen), of joins and loops (by the id of the first region behind): what lives on. -/
structure Ann where
  op : Nat → Nat → Nat := fun _ _ => 0
  join : Nat → Option (List (Nat × Ty)) := fun _ => none
  loop : Nat → Option (List (Nat × Ty)) := fun _ => none
  prot : List Nat := []
  n : Nat := 0

def sel (b : Bool) (X Y : Prop) : Prop := match b with | true => X | false => Y
theorem sel_iff (b : Bool) (X Y : Prop) : sel b X Y ↔ (b = true → X) ∧ (b = false → Y) := by cases b <;> simp [sel]

def allD : Nat → (List D → Prop) → Prop
  | 0, k => k []
  | n + 1, k => ∀ d : D, allD n fun ds => k (d :: ds)
def exD : Nat → (List D → Prop) → Prop
  | 0, k => k []
  | n + 1, k => ∃ d : D, exD n fun ds => k (d :: ds)

def gate (b : Bool) (X : Prop) : Prop := match b with | true => X | false => False
theorem gate_true {b : Bool} {X : Prop} (h : gate b X) : b = true ∧ X := by cases b; exact h.elim; exact ⟨rfl, h⟩

def guard' (b : Bool) : Option Unit := match b with | true => some () | false => none

/-- A constant. -/
def constEnt (T : Nat → TI) (ty : Nat) : Value → Option (Ty × D)
  | .int k n => some (.int k, .i n)
  | .bool v => some (.bool, .b v)
  | .string v => some (.str, .s v)
  | .slice none 0 0 => match T ty with
    | .slice _ _ e => some (.sl true e, .l [] true)
    | _ => none
  | .nilFunc => some (.gone, .u)
  | _ => none

def ev (T : Nat → TI) (ty : Nat) (F : Fr) : Operand → Option Ent
  | .tmp t => F t
  | .const v => (constEnt T ty v).map fun p => .val p.1 p.2
  | .func f => some (.val (.clo f .unit) .u)
  | .global _ => none

/-- The type and the data of a value, of whatever ownership. -/
def view (T : Nat → TI) (ty : Nat) (F : Fr) (x : Operand) : Option (Ty × D) :=
  match ev T ty F x with
  | some (.val t d) | some (.pk t d _ _) => some (t, d)
  | _ => none

/-- What becomes of an entry when slot r is frozen. -/
def Ent.frzAt (r : Nat) : Ent → Ent
  | .pk t d q π => bif Nat.beq q r then .val t.frz d else .pk t d q π
  | .pt t d q π => bif Nat.beq q r then .val (.bx false t.frz) d else .pt t d q π
  | e => e

/-- A slot gives up what it owns, for good: it, and whoever looks at it, only read it from now on. -/
def Fr.freeze (A : Ann) (F : Fr) (s : Nat) : Option Fr :=
  match F s with
  | some (.val t d) => match A.prot.contains s with
    | true => none
    | false => some fun q => bif Nat.beq q s then some (.val t.frz d) else (F q).map (·.frzAt s)
  | _ => none

/-- A slot's value is taken away. -/
def Fr.take (A : Ann) (F : Fr) (s : Nat) : Option (Fr × Ty × D) :=
  match F s with
  | some (.val t d) => match A.prot.contains s with
    | true => none
    | false => some (F.drop s, t, d)
  | _ => none

/-- A value is copied out of an operand. 0: what is owned stays where it is, and the copy is a look at it; 1: it is taken; 2: it is frozen. -/
def moveE (T : Nat → TI) (A : Ann) (ty an : Nat) (F : Fr) (x : Operand) : Option (Fr × Ent) :=
  (ev T ty F x).bind fun e => match x with
    | .tmp s => match e with
      | .val t d => match t.hasOwn with
        | false => some (F, e)
        | true => match an with
          | 0 => some (F, .pk t d s (some []))
          | 1 => (F.take A s).map fun q => (q.1, .val q.2.1 q.2.2)
          | 2 => (F.freeze A s).map fun F' => (F', .val t.frz d)
          | _ => match t with
            | .sl _ _ => (F.take A s).map fun q => (fun x => bif Nat.beq x s then some (.hd d) else q.1 x, .val q.2.1 q.2.2)
            | _ => none
      | .pk t d r (some []) => match an with
        | 0 => some (F, e)
        | 1 => (F.take A r).map fun q => (q.1, .val q.2.1 q.2.2)
        | _ => (F.freeze A r).map fun F' => (F', .val t.frz d)
      | .pk t d r _ => match an with
        | 2 => (F.freeze A r).map fun F' => (F', .val t.frz d)
        | _ => some (F, e)
      | .pt .. => some (F, e)
      | .hd _ => some (F, e)
    | _ => some (F, e)

/-- assign: by default what a slot owns goes with the value. -/
def assignAn (an : Nat) (F : Fr) (x : Operand) : Nat :=
  match an with
  | 0 => match x with
    | .tmp s => match F s with
      | some (.val _ _) => 1
      | _ => 0
    | _ => 0
  | n => n

/-- A value is taken to be put into something else: out of a slot that owns it; what is only looked at is frozen. -/
def absorb0 (T : Nat → TI) (A : Ann) (ty : Nat) (F : Fr) (x : Operand) : Option (Fr × Ty × D) :=
  (ev T ty F x).bind fun e => match e with
    | .val t d => match t.hasOwn with
      | false => some (F, t, d)
      | true => match x with
        | .tmp s => F.take A s
        | _ => some (F, t, d)
    | .pk t d r _ => (F.freeze A r).map fun F' => (F', t.frz, d)
    | .pt .. => none
    | .hd _ => none

def absorb (T : Nat → TI) (A : Ann) (ty : Nat) (F : Fr) (x : Operand) : Option (Fr × Ty × D) :=
  (absorb0 T A ty F x).bind fun q => (guard' q.2.1.mem).bind fun _ => some q

def intBin (op : BinOp) (k : IntKind) (x y : Int) : Option D :=
  match op with
  | .add => some (.i (k.wrap (x + y)))
  | .sub => some (.i (k.wrap (x - y)))
  | .mul => some (.i (k.wrap (x * y)))
  | .and => some (.i (k.wrap (BitVec.ofInt k.bits x &&& BitVec.ofInt k.bits y).toNat))
  | .or => some (.i (k.wrap (BitVec.ofInt k.bits x ||| BitVec.ofInt k.bits y).toNat))
  | .xor => some (.i (k.wrap (BitVec.ofInt k.bits x ^^^ BitVec.ofInt k.bits y).toNat))
  | .andNot => some (.i (k.wrap (BitVec.ofInt k.bits x &&& ~~~ BitVec.ofInt k.bits y).toNat))
  | _ => none

def intCmp (op : BinOp) (x y : Int) : Option D :=
  match op with
  | .eql => some (.b (x == y))
  | .neq => some (.b (x != y))
  | .lss => some (.b (decide (x < y)))
  | .leq => some (.b (decide (x ≤ y)))
  | .gtr => some (.b (decide (x > y)))
  | .geq => some (.b (decide (x ≥ y)))
  | _ => none

def strCmp (op : BinOp) (x y : ByteArray) : Option D :=
  match op with
  | .eql => some (.b (x.toList == y.toList))
  | .neq => some (.b (!(x.toList == y.toList)))
  | .lss => some (.b (Op.bytesLess x.toList y.toList))
  | .leq => some (.b (Op.bytesLess x.toList y.toList || x.toList == y.toList))
  | .gtr => some (.b (!(Op.bytesLess x.toList y.toList || x.toList == y.toList)))
  | .geq => some (.b (!Op.bytesLess x.toList y.toList))
  | _ => none

/-- Two values of a type of whole numbers, bools, strings and structs of these are equal. -/
def Ty.deq : Ty → D → D → Bool
  | .int _, x, y => x.toI == y.toI
  | .bool, x, y => x.toB == y.toB
  | .str, x, y => x.toS == y.toS
  | .pair a b, x, y => a.deq x.fst y.fst && b.deq x.snd y.snd
  | .unit, _, _ => true
  | _, _, _ => false

/-- Fields of a struct: all are numbers, bools or strings, one behind another. -/
def flatFields (T : Nat → TI) : List (Nat × Nat) → Nat → Ty → Bool
  | [], _, .unit => true
  | (off, t) :: fs, o, .pair a b => match T t with
    | .base τ => Nat.beq off o && decide (τ = a) && (match a with | .int _ | .bool | .str => true | _ => false) && flatFields T fs (o + 1) b
    | _ => false
  | _, _, _ => false

/-- What an operation gives: the frame behind what it takes, the result's entry, and what has to hold. -/
abbrev Res := Option (Fr × Ent × Prop)

def res (F : Fr) (t : Ty) (d : D) : Res := some (F, .val t d, True)
def resIf (F : Fr) (t : Ty) (d : D) (p : Prop) : Res := some (F, .val t d, p)

def binE (T : Nat → TI) (op : BinOp) (tx : Nat) (x y : Operand) (tyy : Nat) (F : Fr) : Res :=
  (view T tx F x).bind fun ex => (view T tyy F y).bind fun ey =>
    match ex.1, ey.1 with
    | .int k, .int k' => match op with
      | .shl => resIf F (.int k) (.i (k.wrap (ex.2.toI * 2 ^ (min ey.2.toI.toNat k.bits)))) (0 ≤ ey.2.toI)
      | .shr => resIf F (.int k) (.i (ex.2.toI.fdiv (2 ^ (min ey.2.toI.toNat k.bits)))) (0 ≤ ey.2.toI)
      | .quo => (guard' (decide (k = k'))).bind fun _ => resIf F (.int k) (.i (k.wrap (ex.2.toI.tdiv ey.2.toI))) (ey.2.toI ≠ 0)
      | .rem => (guard' (decide (k = k'))).bind fun _ => resIf F (.int k) (.i (ex.2.toI.tmod ey.2.toI)) (ey.2.toI ≠ 0)
      | op => (guard' (decide (k = k'))).bind fun _ => match intBin op k ex.2.toI ey.2.toI with
        | some r => res F (.int k) r
        | none => (intCmp op ex.2.toI ey.2.toI).bind fun r => res F .bool r
    | .str, .str => match op with
      | .add => resIf F .str (.s (ex.2.toS ++ ey.2.toS)) (ex.2.toS.size + ey.2.toS.size ≤ 9223372036854775807)
      | op => (strCmp op ex.2.toS ey.2.toS).bind fun r => res F .bool r
    | .bool, .bool => (guard' (match T tx with | .base .bool => true | _ => false)).bind fun _ => match op with
      | .eql => res F .bool (.b (ex.2.toB == ey.2.toB))
      | .neq => res F .bool (.b (!(ex.2.toB == ey.2.toB)))
      | _ => none
    | .sl _ _, .sl _ _ => match y with   -- a slice against nil
      | .const _ => (guard' (match T tx with | .slice .. => true | _ => false)).bind fun _ => match op with
        | .eql => res F .bool (.b ex.2.toZ)
        | .neq => res F .bool (.b (!ex.2.toZ))
        | _ => none
      | _ => none
    | .pair a b, .pair a' b' => match T tx with
      | .struct fs τ => (guard' (decide (τ = .pair a b) && decide (a = a') && decide (b = b') && flatFields T fs 0 τ)).bind fun _ => match op with
        | .eql => res F .bool (.b (τ.deq ex.2 ey.2))
        | .neq => res F .bool (.b (!τ.deq ex.2 ey.2))
        | _ => none
      | _ => none
    | _, _ => none

def unE (T : Nat → TI) (op : UnOp) (tx : Nat) (x : Operand) (F : Fr) : Res :=
  (view T tx F x).bind fun ex => match op, ex.1 with
    | .not, .bool => res F .bool (.b (!ex.2.toB))
    | .neg, .int k => res F (.int k) (.i (k.wrap (0 - ex.2.toI)))
    | _, _ => none

/-- The text of some bytes. -/
def strOfD (xs : List D) : ByteArray := ⟨(xs.map fun d => UInt8.ofNat d.toI.toNat).toArray⟩

def convE (T : Nat → TI) (src dst : Nat) (x : Operand) (F : Fr) : Res :=
  (view T src F x).bind fun ex => match T src, T dst, ex.1 with
    | .base (.int _), .base (.int k), .int _ => res F (.int k) (.i (k.wrap ex.2.toI))
    | .base .str, .base .str, .str => res F .str ex.2
    | .slice e _ _, .base .str, .sl _ (.int .u8) => match T e with
      | .base (.int .u8) => res F .str (.s (strOfD ex.2.toL))
      | _ => none
    | _, _, _ => none

/-- Does a type of the program have values of this kind (of whatever ownership)? -/
def fitsTy (T : Nat → TI) (t : Nat) (τ : Ty) : Bool :=
  match T t with
  | .base τ' => decide (τ' = τ) && (match τ with | .int _ | .bool | .str => true | _ => false)
  | .slice _ _ _ => match τ with | .sl _ _ => true | _ => false
  | .struct _ τ' => match τ with | .pair .. => Nat.beq τ.size τ'.size | _ => false
  | .none => false

/-- The same, or a hole where a slice was. -/
def fitsPl (T : Nat → TI) (t : Nat) (τ : Ty) : Bool :=
  match τ with
  | .hole => match T t with | .slice .. => true | _ => false
  | τ => fitsTy T t τ

def loadE (T : Nat → TI) (t : Nat) (p : Operand) (F : Fr) : Res :=
  (ev T 0 F p).bind fun e => match e with
    | .val (.bx true τ) d => match p with
      | .tmp s => (guard' (fitsTy T t τ)).bind fun _ => match τ.hasOwn with
        | true => some (F, .pk τ d s (some [.deref]), True)
        | false => res F τ d
      | _ => none
    | .val (.bx false τ) d => (guard' (fitsTy T t τ)).bind fun _ => res F τ.frz d
    | .pt τ d r π => (guard' (fitsTy T t τ)).bind fun _ => match τ.hasOwn with
        | true => some (F, .pk τ d r π, True)
        | false => res F τ d
    | _ => none

/-- Which place a pointer points to. -/
def ptPlace (F : Fr) (p : Operand) : Option (Nat × Path) :=
  match p with
  | .tmp s => (F s).bind fun e => match e with
    | .val (.bx true _) _ => some (s, [.deref])
    | .pt _ _ r (some π) => some (r, π)
    | _ => none
  | _ => none

/-- A place of one step through memory. -/
def oneStep : Path → Bool
  | .idx _ _ :: π => flatPath π
  | .deref :: π => flatPath π
  | _ => false

/-- A place in a box: of it the slice may be taken. -/
def stealPath : Path → Bool
  | .deref :: π => flatPath π
  | _ => false

/-- Slot r's value is of another type: who looks at places of it, looks at what is there now. -/
def Fr.retype (F : Fr) (r : Nat) (τ : Ty) (d : D) : Fr := fun q => bif Nat.beq q r then some (.val τ d) else match F q with
  | some e => match e.root with
    | none => some e
    | some r' => bif Nat.beq r' r then (match e with
        | .pk _ _ _ (some []) => some (.pk τ d r (some []))
        | .pt _ _ _ (some σ) => match stealPath σ, τ.at σ with
          | true, some t => some (.pt t (d.get σ) r (some σ))
          | _, _ => none
        | _ => none) else some e
  | none => none

/-- A slice is taken out of a place. -/
def stealE (T : Nat → TI) (t : Nat) (p : Operand) (F : Fr) : Res :=
  (ptPlace F p).bind fun pl => match F pl.1 with
    | some (.val τr dr) => match τr.at pl.2 with
      | some (.sl true e) => (guard' (stealPath pl.2 && fitsTy T t (.sl true e))).bind fun _ =>
        some (F.retype pl.1 (τr.set pl.2 .hole) (dr.upd pl.2 .u), .val (.sl true e) (dr.get pl.2), True)
      | _ => none
    | _ => none

/-- A slice at a place is frozen, and read. -/
def frzLoadE (T : Nat → TI) (t : Nat) (p : Operand) (F : Fr) : Res :=
  (ptPlace F p).bind fun pl => match F pl.1 with
    | some (.val τr dr) => match τr.at pl.2 with
      | some (.sl true e) => (guard' (stealPath pl.2 && fitsTy T t (.sl true e))).bind fun _ =>
        some (F.retype pl.1 (τr.set pl.2 (.sl false e.frz)) ((dr.upd pl.2 .u).upd pl.2 (dr.get pl.2)), .val (.sl false e.frz) (dr.get pl.2), True)
      | _ => none
    | _ => none

/-- The type behind a store. -/
def storeTy (τr : Ty) (π : Path) (t : Ty) : Option Ty :=
  match τr.at π with
  | some t0 => match decide (t0 = t) with
    | true => some τr
    | false => match t0 with
      | .hole => match stealPath π && Nat.beq t.size 1 with
        | true => some (τr.set π t)
        | false => none
      | _ => none
  | none => none

/-- The element of the first step is there. -/
def inRow (d : D) : Path → Prop
  | .idx i _ :: _ => i < d.toL.length
  | _ => True

def storeE (T : Nat → TI) (A : Ann) (t : Nat) (p x : Operand) (F : Fr) : Res :=
  (absorb T A t F x).bind fun q => (ptPlace q.1 p).bind fun pl => match q.1 pl.1 with
    | some (.val τr dr) => (storeTy τr pl.2 q.2.1).bind fun τr' => (guard' (oneStep pl.2 && fitsTy T t q.2.1)).bind fun _ =>
      some (q.1.put pl.1 (.val τr' (dr.upd pl.2 q.2.2)), .val .gone .u, inRow dr pl.2)
    | _ => none

def fieldStep : Nat → Nat → Ty → D → Option (Path × Nat × Ty × D)
  | 0, o, .pair a _, d => some ([.fst], o, a, d.fst)
  | n + 1, o, .pair a b, d => (fieldStep n (o + a.size) b d.snd).map fun r => (.snd a.size :: r.1, r.2)
  | _, _, _, _ => none

def addPath (π : Option Path) (σ : Path) : Option Path := π.map (· ++ σ)

def fieldAddrE (T : Nat → TI) (s : Nat) (p : Operand) (f : Nat) (F : Fr) : Res :=
  match T s with
  | .struct fs _ => match fs[f]? with
    | some (off, tf) => (ev T 0 F p).bind fun e => match e with
      | .val (.bx true τ) d => match p with
        | .tmp q => (fieldStep f 0 τ d).bind fun r => (guard' (Nat.beq r.2.1 off && decide (0 < r.2.2.1.size) && fitsPl T tf r.2.2.1)).bind fun _ => some (F, .pt r.2.2.1 r.2.2.2 q (some (.deref :: r.1)), True)
        | _ => none
      | .val (.bx false τ) d => (fieldStep f 0 τ d).bind fun r => (guard' (Nat.beq r.2.1 off && decide (0 < r.2.2.1.size) && fitsTy T tf r.2.2.1)).bind fun _ => res F (.bx false r.2.2.1) r.2.2.2
      | .pt τ d q π => (fieldStep f 0 τ d).bind fun r => (guard' (Nat.beq r.2.1 off && decide (0 < r.2.2.1.size) && fitsPl T tf r.2.2.1)).bind fun _ => some (F, .pt r.2.2.1 r.2.2.2 q (addPath π r.1), True)
      | _ => none
    | none => none
  | _ => none

def fieldE (T : Nat → TI) (s : Nat) (x : Operand) (f : Nat) (F : Fr) : Res :=
  match T s with
  | .struct fs _ => match fs[f]? with
    | some (off, tf) => (ev T 0 F x).bind fun e => match e with
      | .val τ d => (fieldStep f 0 τ d).bind fun r => (guard' (Nat.beq r.2.1 off && !r.2.2.1.hasOwn && fitsTy T tf r.2.2.1)).bind fun _ => res F r.2.2.1 r.2.2.2
      | .pk τ d q _ => (fieldStep f 0 τ d).bind fun r => (guard' (Nat.beq r.2.1 off && fitsTy T tf r.2.2.1)).bind fun _ => match r.2.2.1.hasOwn with
        | true => some (F, .pk r.2.2.1 r.2.2.2 q none, True)
        | false => res F r.2.2.1 r.2.2.2
      | _ => none
    | none => none
  | _ => none

def indexAddrE (T : Nat → TI) (t : Nat) (x ix : Operand) (F : Fr) : Res :=
  match T t with
  | .slice _ _ et => (view T 0 F ix).bind fun i => match i.1 with
    | .int _ => (ev T t F x).bind fun e => match e with
      | .val (.sl true τ) d => match x with
        | .tmp s => (guard' (Nat.beq τ.size et.size)).bind fun _ => some (F, .pt τ (d.toL.getD i.2.toI.toNat .u) s (some [.idx i.2.toI.toNat τ.size]), 0 ≤ i.2.toI ∧ i.2.toI < d.toL.length)
        | _ => none
      | .val (.sl false τ) d => (guard' (Nat.beq τ.size et.size)).bind fun _ => resIf F (.bx false τ) (d.toL.getD i.2.toI.toNat .u) (0 ≤ i.2.toI ∧ i.2.toI < d.toL.length)
      | .pk (.sl true τ) d r π => (guard' (Nat.beq τ.size et.size)).bind fun _ => some (F, .pt τ (d.toL.getD i.2.toI.toNat .u) r (addPath π [.idx i.2.toI.toNat τ.size]), 0 ≤ i.2.toI ∧ i.2.toI < d.toL.length)
      | _ => none
    | _ => none
  | _ => none

/-- A byte of a string. -/
def byteAt (s : ByteArray) (i : Nat) : Int := ((s[i]?).map (·.toNat)).getD 0

def indexE (T : Nat → TI) (t : Nat) (x ix : Operand) (F : Fr) : Res :=
  match T t with
  | .base .str => (view T 0 F ix).bind fun i => (view T t F x).bind fun e => match i.1, e.1 with
    | .int _, .str => resIf F (.int .u8) (.i (byteAt e.2.toS i.2.toI.toNat)) (0 ≤ i.2.toI ∧ i.2.toI < e.2.toS.size)
    | _, _ => none
  | _ => none

/-- A bound of a slice expression; without one: the default. -/
def bound (T : Nat → TI) (F : Fr) (dflt : Int) : Option Operand → Option Int
  | none => some dflt
  | some x => (view T 0 F x).bind fun i => match i.1 with
    | .int _ => some i.2.toI
    | _ => none

def cut (xs : List D) (lo hi : Int) : List D := (xs.take hi.toNat).drop lo.toNat

def sliceE (T : Nat → TI) (A : Ann) (an t : Nat) (x : Operand) (lo hi mx : Option Operand) (F : Fr) : Res :=
  (guard' (mx.isNone || hi.isSome)).bind fun _ => (ev T t F x).bind fun e => match T t, e with
    | .base .str, .val .str d => (guard' mx.isNone).bind fun _ => (bound T F 0 lo).bind fun l => (bound T F d.toS.size hi).bind fun h =>
      resIf F .str (.s (d.toS.extract l.toNat h.toNat)) (0 ≤ l ∧ l ≤ h ∧ h ≤ d.toS.size)
    | .slice _ _ et, .val (.sl o τ) d => (guard' (Nat.beq τ.size et.size)).bind fun _ => (bound T F 0 lo).bind fun l => (bound T F d.toL.length hi).bind fun h => (bound T F h mx).bind fun m =>
      match o with
      | false => resIf F (.sl false τ) (.l (cut d.toL l h) d.toZ) (0 ≤ l ∧ l ≤ h ∧ h ≤ m ∧ m ≤ d.toL.length)
      | true => match x with
        | .tmp s => (F.take A s).bind fun q => resIf q.1 (.sl true τ) (.l (cut d.toL l h) d.toZ) (0 ≤ l ∧ l ≤ h ∧ h ≤ m ∧ m ≤ d.toL.length)
        | _ => resIf F (.sl true τ) (.l (cut d.toL l h) d.toZ) (0 ≤ l ∧ l ≤ h ∧ h ≤ m ∧ m ≤ d.toL.length)
    | .slice _ _ et, .pk (.sl true τ) d r π => (guard' (Nat.beq τ.size et.size)).bind fun _ => (bound T F 0 lo).bind fun l => (bound T F d.toL.length hi).bind fun h => (bound T F h mx).bind fun m =>
      match an with
      | 0 => some (F, .pk (.sl true τ) (.l (cut d.toL l h) d.toZ) r none, 0 ≤ l ∧ l ≤ h ∧ h ≤ m ∧ m ≤ d.toL.length)
      | 2 => (F.freeze A r).bind fun F' => resIf F' (.sl false τ.frz) (.l (cut d.toL l h) d.toZ) (0 ≤ l ∧ l ≤ h ∧ h ≤ m ∧ m ≤ d.toL.length)
      | _ => match π with
        | some [] => (F.take A r).bind fun q => (guard' (decide (q.2.1 = .sl true τ))).bind fun _ =>
          resIf (fun x => bif Nat.beq x r then some (.hd q.2.2) else q.1 x) (.sl true τ) (.l (cut q.2.2.toL l h) q.2.2.toZ) (0 ≤ l ∧ l ≤ h ∧ h ≤ m ∧ m ≤ d.toL.length)
        | _ => none
    | _, _ => none

/-- The zero value of a type. -/
def Ty.zero : Ty → D
  | .int _ => .i 0
  | .bool => .b false
  | .str => .s ⟨#[]⟩
  | .pair a b => .p a.zero b.zero
  | .sl _ _ => .l [] true
  | _ => .u

def absorbAll (T : Nat → TI) (A : Ann) (ty : Nat) : Fr → List Operand → Option (Fr × List (Ty × D))
  | F, [] => some (F, [])
  | F, x :: xs => (absorb T A ty F x).bind fun q => (absorbAll T A ty q.1 xs).map fun r => (r.1, q.2 :: r.2)

/-- One type for all: their own, if they have the same, else what is left of it without ownership. -/
def joinTy (dflt : Ty) : List (Ty × D) → Option Ty
  | [] => some dflt
  | (t, _) :: r => match r.all fun q => decide (q.1 = t) with
    | true => some t
    | false => match r.all fun q => decide (q.1.frz = t.frz) with
      | true => some t.frz
      | false => none

/-- The places 0, 1, 2, .. in order. -/
def inOrder : Nat → List (Nat × Operand) → Bool
  | _, [] => true
  | n, (i, _) :: r => Nat.beq i n && inOrder (n + 1) r

def buildSliceE (T : Nat → TI) (A : Ann) (t n : Nat) (ps : List (Nat × Operand)) (F : Fr) : Res :=
  match T t with
  | .slice e _ τ => (guard' (inOrder 0 ps && Nat.beq ps.length n && Nat.ble (n * τ.size) 1000 && decide (0 < τ.size))).bind fun _ =>
    (absorbAll T A e F (ps.map (·.2))).bind fun q => (joinTy τ q.2).bind fun τ' => (guard' (Nat.beq τ'.size τ.size)).bind fun _ =>
      res q.1 (.sl true τ') (.l (q.2.map (·.2)) false)
  | _ => none

def pairAll : List (Ty × D) → Ty × D
  | [] => (.unit, .u)
  | (t, d) :: r => (.pair t (pairAll r).1, .p d (pairAll r).2)

/-- The fields of a struct that is built: given, or zero. -/
def fieldsE (T : Nat → TI) (A : Ann) : List (Nat × Nat) → Nat → Nat → List (Nat × Operand) → Fr → Option (Fr × List (Ty × D))
  | [], _, _, [], F => some (F, [])
  | (off, tf) :: fs, n, o, ps, F => (guard' (Nat.beq off o)).bind fun _ =>
    let zero : Option (Ty × D) := match T tf with | .base τ => some (τ, τ.zero) | .slice _ _ e => some (.sl true e, .l [] true) | _ => none
    match ps with
    | (i, x) :: ps' => match Nat.beq i n with
      | true => (absorb T A tf F x).bind fun q => (guard' (fitsTy T tf q.2.1)).bind fun _ => (fieldsE T A fs (n + 1) (o + q.2.1.size) ps' q.1).map fun r => (r.1, q.2 :: r.2)
      | false => zero.bind fun z => (fieldsE T A fs (n + 1) (o + z.1.size) ps F).map fun r => (r.1, z :: r.2)
    | [] => zero.bind fun z => (fieldsE T A fs (n + 1) (o + z.1.size) [] F).map fun r => (r.1, z :: r.2)
  | _, _, _, _, _ => none

def buildE (T : Nat → TI) (A : Ann) (t : Nat) (ps : List (Nat × Operand)) (F : Fr) : Res :=
  match T t with
  | .struct fs τ => (fieldsE T A fs 0 0 ps F).bind fun q => (guard' (decide ((pairAll q.2).1.frz = τ.frz))).bind fun _ => res q.1 (pairAll q.2).1 (pairAll q.2).2
  | _ => none

def makeSliceE (T : Nat → TI) (t : Nat) (n c : Operand) (F : Fr) : Res :=
  match T t with
  | .slice _ bytes τ => (view T 0 F n).bind fun i => (view T 0 F c).bind fun j => match i.1, j.1 with
    | .int _, .int _ => resIf F (.sl true τ) (.l (List.replicate i.2.toI.toNat τ.zero) false) (0 ≤ i.2.toI ∧ i.2.toI ≤ j.2.toI ∧ j.2.toI * bytes ≤ 140737488355328 ∧ j.2.toI ≤ 140737488355328)
    | _, _ => none
  | _ => none

def boxE (T : Nat → TI) (A : Ann) (t : Nat) (x : Operand) (F : Fr) : Res :=
  (absorb T A t F x).bind fun q => (guard' (fitsTy T t q.2.1)).bind fun _ => res q.1 (.bx true q.2.1) q.2.2

def allocE (T : Nat → TI) (t : Nat) (F : Fr) : Res :=
  match T t with
  | .base τ => res F (.bx true τ) τ.zero
  | .slice _ _ e => res F (.bx true (.sl true e)) (.l [] true)
  | .struct _ τ => res F (.bx true τ) τ.zero
  | .none => none

/-- The component of a tuple, and what is left of it. -/
def compAt : Nat → Ty → D → Option (Ty × D × Ty)
  | 0, .tcons a b, d => some (a, d.fst, .tcons (bif a.hasOwn then .gone else a) b)
  | n + 1, .tcons a b, d => (compAt n b d.snd).map fun r => (r.1, r.2.1, .tcons a r.2.2)
  | _, _, _ => none

def extractE (A : Ann) (x : Operand) (n : Nat) (F : Fr) : Res :=
  match x with
  | .tmp s => (F s).bind fun e => match e with
    | .val τ d => (compAt n τ d).bind fun r => (guard' (!A.prot.contains s)).bind fun _ => match r.1.hasOwn with
      | true => res (F.put s (.val r.2.2 d)) r.1 r.2.1
      | false => res F r.1 r.2.1
    | _ => none
  | _ => none

/-- A function value out of a function and what it captures: boxes that are frozen. -/
def capAll (A : Ann) : Fr → List Operand → Option (Fr × List (Ty × D))
  | F, [] => some (F, [])
  | F, .tmp s :: xs => (F s).bind fun e => match e with
    | .val (.bx _ _) _ => (F.freeze A s).bind fun F' => (F' s).bind fun e' => match e' with
      | .val t d => (capAll A F' xs).map fun r => (r.1, (t, d) :: r.2)
      | _ => none
    | _ => none
  | _, _ => none

def makeFuncE (A : Ann) (fn : Fn) (first captured : List Operand) (F : Fr) : Res :=
  match fn, first with
  | .func f, [] => (capAll A F captured).bind fun q => res q.1 (.clo f (pairAll q.2).1) (pairAll q.2).2
  | _, _ => none

def lenE (T : Nat → TI) (t : Nat) (x : Operand) (F : Fr) : Res :=
  match x, ev T t F x, T t with
  | .tmp _, some (.hd d), .slice .. => res F (.int .i64) (.i d.toL.length)
  | _, _, _ => (view T t F x).bind fun e => match T t, e.1 with
    | .base .str, .str => res F (.int .i64) (.i e.2.toS.size)
    | .slice .., .sl _ _ => res F (.int .i64) (.i e.2.toL.length)
    | _, _ => none

def maxE (isMax : Bool) (T : Nat → TI) (x y : Operand) (F : Fr) : Res :=
  (view T 0 F x).bind fun a => (view T 0 F y).bind fun b => match a.1, b.1 with
    | .int k, .int k' => (guard' (decide (k = k'))).bind fun _ => res F (.int k) (.i (bif isMax then max a.2.toI b.2.toI else min a.2.toI b.2.toI))
    | _, _ => none

/-- The slice that is appended to: it is taken. -/
def ownSlice (T : Nat → TI) (A : Ann) (t : Nat) (F : Fr) (x : Operand) : Option (Fr × Ty × D) :=
  (ev T t F x).bind fun e => match e with
    | .val (.sl true τ) d => match x with
      | .tmp s => (F.take A s).map fun q => (q.1, τ, d)
      | _ => some (F, τ, d)
    | .pk (.sl true _) _ r (some []) => (F.take A r).bind fun q => match q.2.1 with
      | .sl true τ => some (q.1, τ, q.2.2)
      | _ => none
    | _ => none

def appRes (F : Fr) (bytes : Nat) (τ : Ty) (d1 d2 : D) : Res :=
  resIf F (.sl true τ) (.l (d1.toL ++ d2.toL) (d1.toZ && d2.toL.isEmpty)) ((d1.toL.length + d2.toL.length) * bytes ≤ 140737488355328 ∧ d1.toL.length + d2.toL.length ≤ 140737488355328)

def appendE (T : Nat → TI) (A : Ann) (ts tx : Nat) (s x : Operand) (F : Fr) : Res :=
  match T ts with
  | .slice _ bytes τ0 => (ownSlice T A ts F s).bind fun q => (guard' (Nat.beq q.2.1.size τ0.size && q.2.1.mem)).bind fun _ => match T tx with
    | .base (.int .i64) => (view T 0 q.1 x).bind fun n => match n.1 with
      | .int .i64 => (guard' (decide (q.2.1 = τ0) && decide (0 < τ0.size))).bind fun _ => resIf q.1 (.sl true τ0) (.l (q.2.2.toL ++ List.replicate n.2.toI.toNat τ0.zero) (q.2.2.toZ && decide (n.2.toI.toNat = 0)))
          (0 ≤ n.2.toI ∧ (q.2.2.toL.length + n.2.toI.toNat) * bytes ≤ 140737488355328 ∧ q.2.2.toL.length + n.2.toI.toNat ≤ 140737488355328)
      | _ => none
    | .slice .. => (ev T tx q.1 x).bind fun e => match e with
      | .val (.sl o τ) d =>
        -- what is appended owns things: they are taken; else it is only read
        match o && τ.hasOwn with
        | true => match decide (τ = q.2.1) with
          | true => (absorb T A tx q.1 x).bind fun q2 => (guard' (decide (q2.2.1 = .sl true q.2.1))).bind fun _ => appRes q2.1 bytes q.2.1 q.2.2 q2.2.2
          | false => match x with
            | .tmp s' => (q.1.freeze A s').bind fun F' => (view T tx F' (.tmp s')).bind fun v => match v.1 with
              | .sl false τ' => (guard' (decide (τ'.frz = q.2.1.frz))).bind fun _ => appRes F' bytes q.2.1.frz q.2.2 v.2
              | _ => none
            | _ => none
        | false => (guard' (decide (τ.frz = q.2.1.frz))).bind fun _ => appRes q.1 bytes q.2.1.frz q.2.2 d
      | .pk (.sl true τ) d r _ => match τ.hasOwn with
        | false => (guard' (decide (τ.frz = q.2.1.frz))).bind fun _ => appRes q.1 bytes q.2.1.frz q.2.2 d
        | true => (q.1.freeze A r).bind fun F' => (guard' (decide (τ.frz = q.2.1.frz))).bind fun _ => appRes F' bytes q.2.1.frz q.2.2 d
      | _ => none
    | _ => none
  | _ => none

/-- The begin of a loop over a string. -/
def rangeE (T : Nat → TI) (t : Nat) (x : Operand) (F : Fr) : Res :=
  (view T t F x).bind fun e => match T t, e.1 with
    | .base .str, .str => res F .iter (.p (.s e.2.toS) (.i 0))
    | _, _ => none

def nilCheckE (F : Fr) (x : Operand) : Res :=
  match x with
  | .tmp s => (F s).bind fun e => match e with
    | .val (.bx true τ) d => some (F, .pt τ d s (some [.deref]), True)
    | .val (.bx false τ) d => res F (.bx false τ) d
    | .pt .. => some (F, e, True)
    | .pk (.bx true τ) d r π => some (F, .pt τ d r (addPath π [.deref]), True)
    | _ => none
  | _ => none

/-- All operations but pick, cap and the calls of functions. -/
def evalOp (T : Nat → TI) (A : Ann) (an : Nat) (o : Oper) (F : Fr) : Res :=
  match o.op with
  | .move x => (moveE T A o.type an F x).map fun q => (q.1, q.2, True)
  | .assign x => (moveE T A o.type (assignAn an F x) F x).map fun q => (q.1, q.2, True)
  | .nilCheck x => nilCheckE F x
  | .unOp op t x => unE T op t x F
  | .binOp op tx x y ty => binE T op tx x y ty F
  | .convert s d x => convE T s d x F
  | .load t p => match Nat.beq an 1 with
    | true => stealE T t p F
    | false => match Nat.beq an 3 with
      | true => frzLoadE T t p F
      | false => loadE T t p F
  | .store t p x => match o.dst with | none => storeE T A t p x F | some _ => none
  | .fieldAddr s x f => fieldAddrE T s x f F
  | .field s x f => fieldE T s x f F
  | .indexAddr t x i => indexAddrE T t x i F
  | .index t x i => indexE T t x i F
  | .slice t x lo hi mx => sliceE T A an t x lo hi mx F
  | .build t ps => buildE T A t ps.toList F
  | .buildSlice t n ps => buildSliceE T A t n ps.toList F
  | .makeSlice t n c => makeSliceE T t n c F
  | .box t x => boxE T A t x F
  | .alloc t => allocE T t F
  | .extract x n => extractE A x n F
  | .makeFunc fn first captured => makeFuncE A fn first.toList captured.toList F
  | .range t x => rangeE T t x F
  | .call { callee := .builtin b, args, argTypes } => match b, args.toList, argTypes.toList with
    | .len, [x], [t] => lenE T t x F
    | .max, [x, y], _ => maxE true T x y F
    | .min, [x, y], _ => maxE false T x y F
    | .append, [s, x], [ts, tx] => appendE T A ts tx s x F
    | _, _, _ => none
  | _ => none

/-- Operations of which nothing is asked. -/
def trivOp : Op → Bool
  | .move _ | .assign _ | .nilCheck _ | .unOp .. | .convert .. | .load .. | .fieldAddr .. | .field .. | .build .. | .buildSlice .. | .box .. | .alloc _ | .extract .. | .makeFunc .. | .range .. => true
  | .binOp op .. => match op with | .eql | .neq | .lss | .leq | .gtr | .geq | .sub => true | _ => false
  | .call { callee := .builtin b, .. } => match b with | .len | .max | .min => true | _ => false
  | _ => false

def putDst (A : Ann) (F : Fr) (dst : Option Nat) (e : Ent) : Option Fr :=
  match dst with
  | none => some F
  | some d => match A.prot.contains d || !Nat.blt d A.n with
    | true => none
    | false => match e.root with
      | some r => match Nat.beq r d with
        | true => none
        | false => some (F.put d e)
      | none => some (F.put d e)

/-- What becomes of an argument: it is only read; it is taken, with its data; it is the value of slot r, which the call changes. -/
inductive AR where
  | bor
  | tak (d : D)
  | ino (r : Nat)

/-- One argument of a call: what it takes from the frame. 'leak': results may read what the arguments hold, which is therefore frozen. -/
def argE (T : Nat → TI) (A : Ann) (leak : Bool) (ty : Nat) (F : Fr) (m : PM × Ty) (x : Operand) : Option (Fr × AR) :=
  (ev T ty F x).bind fun e => match m.1 with
    | .bor => match leak with
      | false => some (F, .bor)
      | true => match e with
        | .val t _ => match t.hasOwn with
          | false => some (F, .bor)
          | true => match x with
            | .tmp s => (F.freeze A s).map fun F' => (F', .bor)
            | _ => some (F, .bor)
        | .pk _ _ r _ => (F.freeze A r).map fun F' => (F', .bor)
        | .pt .. => none
        | .hd _ => none
    | .tak => match x with
      | .tmp s => match e with
        | .val _ _ => (F.take A s).bind fun q => (guard' (decide (q.2.1 = m.2))).bind fun _ => some (q.1, .tak q.2.2)
        | .pk _ _ r (some []) => (F.take A r).bind fun q => (guard' (decide (q.2.1 = m.2))).bind fun _ => some (q.1, .tak q.2.2)
        | _ => none
      | _ => match e with
        | .val t d => (guard' (decide (t = m.2))).bind fun _ => some (F, .tak d)
        | _ => none
    | .ino => match x with
      | .tmp s => match e with
        | .val _ _ => some (F, .ino s)
        | .pk _ _ r (some []) => some (F, .ino r)
        | .pt _ _ r (some [.deref]) => match F r with
          | some (.val (.bx true _) _) => some (F, .ino r)
          | _ => none
        | _ => none
      | _ => none

def argsE (T : Nat → TI) (A : Ann) (leak : Bool) : Fr → List (PM × Ty) → List (Operand × Nat) → Option (Fr × List AR)
  | F, [], [] => some (F, [])
  | F, m :: ms, (x, t) :: xs => (argE T A leak t F m x).bind fun q => (argsE T A leak q.1 ms xs).map fun r => (r.1, q.2 :: r.2)
  | _, _, _ => none

/-- Which slices of a struct are frozen: a number, if any is. -/
def Ty.bits : Ty → Nat → Nat
  | .pair (.sl o _) b, n => b.bits (2 * n + (match o with | true => 1 | false => 0))
  | .pair _ b, n => b.bits n
  | _, n => n
def Ty.allOwn : Ty → Bool
  | .pair (.sl o _) b => o && b.allOwn
  | .pair _ b => b.allOwn
  | _ => true
def boxCode (t : Ty) : List Nat := match t.allOwn with
  | true => []
  | false => [1000000 + t.bits 1]

/-- Which functions the arguments are that are functions; and which parts of what boxes hold are frozen. -/
def fnArgs (F : Fr) : List Operand → List Nat
  | [] => []
  | .func f :: xs => f :: fnArgs F xs
  | .tmp s :: xs => match F s with
    | some (.val (.clo f _) _) => f :: fnArgs F xs
    | some (.val (.bx true t) _) | some (.pk (.bx true t) _ _ _) | some (.pt t _ _ (some [.deref])) => boxCode t ++ fnArgs F xs
    | _ => fnArgs F xs
  | _ :: xs => fnArgs F xs

/-- The slots that a call changes. -/
def inoSlots : List AR → List Nat
  | [] => []
  | .ino r :: rs => r :: inoSlots rs
  | _ :: rs => inoSlots rs

/-- What the arguments hold: nothing that is only read may be changed, too. -/
def dataE (T : Nat → TI) (F : Fr) (leak : Bool) (ss : List Nat) : List (PM × Ty) → List (Operand × Nat) → List AR → Option (List D)
  | [], [], [] => some []
  | m :: ms, (x, t) :: xs, .bor :: rs => (ev T t F x).bind fun e => (match e with
      | .val τ d => (guard' (decide (τ.frz = m.2.frz) && match x with | .tmp s => !τ.hasOwn || (!leak && !ss.contains s) | _ => true)).bind fun _ => some d
      | .pk τ d r _ => (guard' (decide (τ.frz = m.2.frz) && (!leak && !ss.contains r))).bind fun _ => some d
      | .pt .. => none
      | .hd _ => none).bind fun d => (dataE T F leak ss ms xs rs).map (d :: ·)
  | _ :: ms, _ :: xs, .tak d :: rs => (dataE T F leak ss ms xs rs).map (d :: ·)
  | m :: ms, _ :: xs, .ino r :: rs => match F r with
    | some (.val τ d) => (guard' (decide (τ = m.2))).bind fun _ => (dataE T F leak ss ms xs rs).map (d :: ·)
    | _ => none
  | _, _, _ => none

/-- What an argument becomes that the call changes. -/
def backE (F : Fr) : List (PM × Ty) → List AR → List D → Option Fr
  | [], [], [] => some F
  | m :: ms, .ino s :: ss, d :: ds => backE (F.put s (.val m.2 d)) ms ss ds
  | _ :: ms, .bor :: ss, ds | _ :: ms, .tak _ :: ss, ds => backE F ms ss ds
  | _, _, _ => none

def tupTy : List Ty → Ty
  | [] => .tnil
  | t :: r => .tcons t (tupTy r)
def tupD : List D → D
  | [] => .u
  | d :: r => .p d (tupD r)

def retEnt (rs : List Ty) (ds : List D) : Ty × D :=
  match rs, ds with
  | [t], [d] => (t, d)
  | rs, ds => (tupTy rs, tupD ds)

/-- The slots that are changed are all different. -/
def apart : List Nat → Bool
  | [] => true
  | s :: r => !r.contains s && apart r

/-- A type some of whose values read memory that is not their own. -/
def Ty.reads : Ty → Bool
  | .sl o e => !o || e.reads
  | .bx o e => !o || e.reads
  | .pair a b | .tcons a b => a.reads || b.reads
  | .clo _ c => match c with | .unit => false | _ => true
  | _ => false

/-- What a function value captured, as arguments. -/
def capArgs : Ty → D → Option (List (Ty × D))
  | .unit, _ => some []
  | .pair a b, d => (capArgs b d.snd).map fun r => (a, d.fst) :: r
  | _, _ => none

/-- The function that is called, and what it captured. -/
def calleeE (F : Fr) : Operand → Option (Nat × List (Ty × D))
  | .func g => some (g, [])
  | .tmp s => match F s with
    | some (.val (.clo g c) d) => (capArgs c d).map fun r => (g, r)
    | _ => none
  | _ => none

def capsFit : List (PM × Ty) → List (Ty × D) → Bool
  | [], [] => true
  | (.bor, t) :: ms, (.bx b e, _) :: cs => decide ((Ty.bx b e).frz = t.frz) && capsFit ms cs
  | _, _ => false

/-- A call, once the callee and the arguments are known. -/
structure CallP where
  g : Nat
  fns : List Nat
  S : Sg
  F1 : Fr
  xs : List D
  ss : List AR

/-- May what a call leaves read what its arguments hold? -/
def Sg.leak (S : Sg) : Bool := S.rs.any Ty.reads || S.ps.any fun m => decide (m.1 = .ino) && m.2.reads

def callP (E : Env) (A : Ann) (callee : Operand) (args : List Operand) (tys : List Nat) (F : Fr) : Option CallP :=
  (calleeE F callee).bind fun c => (E.sg c.1 (fnArgs F args)).bind fun S =>
    (argsE E.T A S.leak F (S.ps.take args.length) (args.zip tys)).bind fun q =>
    (guard' (Nat.beq tys.length args.length && capsFit (S.ps.drop args.length) c.2 && apart (inoSlots q.2))).bind fun _ =>
    (dataE E.T q.1 S.leak (inoSlots q.2) (S.ps.take args.length) (args.zip tys) q.2).bind fun xs =>
      some { g := c.1, fns := fnArgs F args, S := S, F1 := q.1, xs := xs ++ c.2.map (·.2), ss := q.2 }

def orF (o : Option Fr) (K : Fr → Prop) : Prop := match o with | some F => K F | none => False

def pwCall (E : Env) (A : Ann) (dst : Option Nat) (args : Nat) (c : Option CallP) (K : Fr → Prop) : Prop :=
  match c with
  | none => False
  | some c => exD (c.S.rs.length + (inoSlots c.ss).length) fun rs => E.sat c.g c.fns c.xs rs ∧
      orF ((backE c.F1 (c.S.ps.take args) c.ss (rs.drop c.S.rs.length)).bind fun F2 =>
        putDst A F2 dst (.val (retEnt c.S.rs (rs.take c.S.rs.length)).1 (retEnt c.S.rs (rs.take c.S.rs.length)).2)) K

/-- One operation. -/
def pwOp0 (E : Env) (A : Ann) (an : Nat) (o : Oper) (F : Fr) (K : Fr → Prop) : Prop :=
  match o.op with
  | .pick c a b => match view E.T 0 F c with
    | some (.bool, d) => sel d.toB
        (orF ((moveE E.T A o.type an F a).bind fun q => putDst A q.1 o.dst q.2) K)
        (orF ((moveE E.T A o.type an F b).bind fun q => putDst A q.1 o.dst q.2) K)
    | _ => False
  | .next (.tmp s) true => match F s with
    | some (.val .iter d) => match A.prot.contains s with
      | true => False
      | false => sel (decide (d.snd.toI.toNat < d.fst.toS.size))
        (orF (putDst A (F.put s (.val .iter (.p (.s d.fst.toS) (.i (d.snd.toI.toNat + (Utf8.decode d.fst.toS d.snd.toI.toNat).2 : Nat))))) o.dst
          (.val (.tcons .bool (.tcons (.int .i64) (.tcons (.int .i32) .tnil))) (.p (.b true) (.p (.i d.snd.toI.toNat) (.p (.i (Utf8.decode d.fst.toS d.snd.toI.toNat).1) .u))))) K)
        (orF (putDst A F o.dst (.val (.tcons .bool .tnil) (.p (.b false) .u))) K)
    | _ => False
  | .call { callee := .value f, args, argTypes } => pwCall E A o.dst args.size (callP E A f args.toList argTypes.toList F) K
  | .call { callee := .builtin .cap, args, argTypes } => match args.toList, argTypes.toList with
    | [x], [t] => match E.T t, view E.T t F x with
      | .slice .., some (.sl _ _, d) => ∀ c : Nat, d.toL.length ≤ c → (d.toZ = true → c = 0) → orF (putDst A F o.dst (.val (.int .i64) (.i c))) K
      | _, _ => False
    | _, _ => False
  | _ => match evalOp E.T A an o F with
    | some (F1, e, vc) => match trivOp o.op with
      | true => orF (putDst A F1 o.dst e) K
      | false => vc ∧ orF (putDst A F1 o.dst e) K
    | none => False

/-- One operation; with an annotation from 10 on: a slot is frozen first. -/
def pwOp (E : Env) (A : Ann) (an : Nat) (o : Oper) (F : Fr) (K : Fr → Prop) : Prop :=
  match Nat.ble 10 an with
  | true => orF (F.freeze A (an - 10)) fun F' => pwOp0 E A 0 o F' K
  | false => pwOp0 E A an o F K

/-- The slot that an operation of a region writes. -/
def dstOf (ops : List Oper) (j : Nat) : Option Nat := (ops[j]?).bind (·.dst)

/-- A slot's bool is decided. -/
def Fr.know (F : Fr) (s : Nat) (b : Bool) : Fr := fun t => bif Nat.beq t s then some (.val .bool (.b b)) else F t

/-- One operation of a region, with its guard. -/
def pwOne (E : Env) (A : Ann) (rid : Nat) (all : List Oper) (n : Nat) (o : Oper) (F : Fr) (K : Fr → Prop) : Prop :=
  match o.guard with
  | none => pwOp E A (A.op rid n) o F K
  | some (j, want) => match dstOf all j with
    | some s => match F s with
      | some (.val .bool d) => sel (d.toB == want)
          (pwOp E A (A.op rid n) o (F.know s want) K)
          (orF (putDst A (F.know s (!want)) o.dst (.val .tnil .u)) K)
      | some (.val .tnil _) => orF (putDst A F o.dst (.val .tnil .u)) K
      | _ => False
    | none => False

def pwOps (E : Env) (A : Ann) (rid : Nat) (all : List Oper) : Nat → List Oper → Fr → (Fr → Prop) → Prop
  | _, [], F, K => K F
  | n, o :: rest, F, K => pwOne E A rid all n o F fun F' => pwOps E A rid all (n + 1) rest F' K

/-- Operations that hang on no world. -/
def posTy (T : Nat → TI) (t : Nat) : Bool :=
  match T t with
  | .base τ => match τ with | .int _ | .bool | .str => true | _ => false
  | .slice .. => true
  | .struct _ τ => match τ with | .pair .. => !Nat.beq τ.size 0 | _ => false
  | .none => false

def quietOp (T : Nat → TI) (o : Oper) : Bool := match o.op with
  | .move _ => true
  | .indexAddr .. => true
  | .fieldAddr s _ f => match T s with
    | .struct fs _ => match fs[f]? with | some p => posTy T p.2 | none => false
    | _ => false
  | _ => false

def pickQuiet (T : Nat → TI) (ops : Array Oper) (listed : Array Bool) : List Nat → Option Nat
  | [] => none
  | i :: r => match ops[i]? with
    | some o => match quietOp T o && Region.free .any ops listed i with
      | true => some i
      | false => pickQuiet T ops listed r
    | none => pickQuiet T ops listed r

/-- Operations that leave the world. -/
def keepOp (T : Nat → TI) (o : Oper) : Bool := quietOp T o || match o.op with
  | .load .. | .nilCheck _ => true
  | _ => false

/-- What comes behind operation i. -/
def aftOf (ops : Array Oper) (i : Nat) : List Nat :=
  (List.range ops.size).foldl (fun S j => match ops[j]? with
    | some o => match o.after.any (fun e => Region.binds .any e && (Nat.beq e.on i || S.contains e.on)) with
      | true => j :: S
      | false => S
    | none => S) []

/-- Operation i commutes with all that may come ahead of it. -/
def readFree (T : Nat → TI) (ops : Array Oper) (listed : Array Bool) (i : Nat) (S : List Nat) : Bool :=
  match ops[i]? with
  | some oi => keepOp T oi &&
      S.all (fun j => !listed.getD j false && match ops[j]? with
        | some o => o.after.any (fun e => Region.binds .any e && (Nat.beq e.on i || S.contains e.on))
        | none => true) &&
      (List.range ops.size).all (fun j => Nat.beq j i || listed.getD j true || S.contains j || match ops[j]? with
        | some oj => oi.apart ops oj && keepOp T oj
        | none => true)
  | none => false

def pickRead (T : Nat → TI) (ops : Array Oper) (listed : Array Bool) : List Nat → Option Nat
  | [] => none
  | i :: r => match readFree T ops listed i (aftOf ops i) with
    | true => some i
    | false => pickRead T ops listed r

def allI : List Nat → (Nat → Prop) → Prop
  | [], _ => True
  | [i], f => f i
  | i :: r, f => f i ∧ allI r f

/-- The operations of a region in whatever order. -/
def pwAny (E : Env) (A : Ann) (rid : Nat) (ops : Array Oper) : Nat → Array Bool → Fr → (Fr → Prop) → Prop
  | 0, listed, F, K => match Region.ready .any ops listed with | [] => K F | _ => False
  | fuel + 1, listed, F, K => match Region.ready .any ops listed with
    | [] => K F
    | i :: rs => match pickQuiet E.T ops listed (i :: rs) with
      | some j => (match ops[j]? with
        | some o => pwOne E A rid ops.toList j o F fun F' => pwAny E A rid ops fuel (listed.setIfInBounds j true) F' K
        | none => False)
      | none => match pickRead E.T ops listed (i :: rs) with
        | some j => (match ops[j]? with
          | some o => pwOne E A rid ops.toList j o F fun F' => pwAny E A rid ops fuel (listed.setIfInBounds j true) F' K
          | none => False)
        | none => allI (i :: rs) fun j => (match ops[j]? with
          | some o => pwOne E A rid ops.toList j o F fun F' => pwAny E A rid ops fuel (listed.setIfInBounds j true) F' K
          | none => False)

/-- What lives on: the data of some slots of given types. -/
def grab (A : Ann) (F : Fr) : List (Nat × Ty) → Option (List D)
  | [] => some []
  | (s, t) :: r => match F s with
    | some (.val t' d) => match decide (t' = t) || (decide (t'.frz = t) && !A.prot.contains s) with
      | true => (grab A F r).map (d :: ·)
      | false => none
    | _ => none

def mkFr : List (Nat × Ty) → List D → Nat → Option Ent
  | [], _, _ => none
  | (s, t) :: r, ds, q => match ds with
    | d :: ds => bif Nat.beq q s then some (.val t d) else mkFr r ds q
    | [] => none

def orL (o : Option (List D)) (K : List D → Prop) : Prop := match o with | some l => K l | none => False

inductive PExit where
  | normal
  | exit (id : Nat)
  | ret

/-- The first region of a piece of code. -/
def headId : Code → Option Nat
  | .region id _ _ => some id
  | .seq a b => match headId a with | some i => some i | none => headId b
  | .block _ c | .loop c => headId c
  | _ => none

def distinct : List (Nat × Ty) → Bool
  | [] => true
  | (s, _) :: r => !r.any (fun q => Nat.beq q.1 s) && distinct r

def pw (E : Env) (A : Ann) : Code → Fr → (PExit → Fr → Prop) → Prop
  | .skip, F, K => K .normal F
  | .label _, F, K => K .normal F
  | .ret, F, K => K .ret F
  | .exit id, F, K => K (.exit id) F
  | .region id ops draw, F, K => match draw with
    | false => pwOps E A id ops.toList 0 ops.toList F (K .normal)
    | true => gate (Region.noSelect ops) (pwAny E A id ops ops.size (Array.replicate ops.size false) F (K .normal))
  | .seq a b, F, K => match (headId b).bind A.join with
    | none => pw E A a F fun e F' => match e with
      | .normal => pw E A b F' K
      | e => K e F'
    | some live => gate (distinct live) (∃ J : List D → Prop, (pw E A a F fun e F' => match e with
        | .normal => orL (grab A F' live) J
        | e => K e F') ∧
      allD live.length fun ds => J ds → pw E A b (fun q => mkFr live ds q) K)
  | .cond c x y, F, K => match c with
    | .tmp s => match F s with
      | some (.val .bool d) => sel d.toB (pw E A x (F.know s true) K) (pw E A y (F.know s false) K)
      | _ => False
    | _ => False
  | .block id c, F, K => pw E A c F fun e F' => match e with
    | .exit id' => match Nat.beq id' id with
      | true => K .normal F'
      | false => K (.exit id') F'
    | e => K e F'
  | .loop c, F, K => match (headId c).bind A.loop with
    | none => False
    | some live => gate (distinct live) (∃ (J : List D → Prop) (μ : List D → Nat), orL (grab A F live) J ∧
      allD live.length fun ds => J ds → pw E A c (fun q => mkFr live ds q) fun e F' => match e with
        | .normal => orL (grab A F' live) fun ds' => J ds' ∧ μ ds' < μ ds
        | e => K e F')
  | _, _, _ => False

/-- The frame at a function's begin. -/
def initFr : Nat → List (PM × Ty) → List D → Nat → Option Ent
  | _, [], _, _ => none
  | n, (m, t) :: ms, ds, q => match ds with
    | d :: ds => bif Nat.beq q n then some (.val (match m with | .bor => t.frz | _ => t) d) else initFr (n + 1) ms ds q
    | [] => none

/-- The results out of their slots, one behind another. -/
def takeRes (T : Nat → TI) (A : Ann) : Fr → List ResultVar → List Ty → Option (List D)
  | _, [], [] => some []
  | F, .tmp s :: rs, t :: ts => (F s).bind fun e => match e with
    | .val t' d => (guard' ((decide (t' = t) || decide (t'.frz = t)) && !A.prot.contains s)).bind fun _ => (takeRes T A (F.drop s) rs ts).map (d :: ·)
    | .pk _ _ r (some []) => (F.take A r).bind fun q => (guard' (decide (q.2.1 = t))).bind fun _ => (takeRes T A (q.1.drop s) rs ts).map (q.2.2 :: ·)
    | _ => none
  | F, .cell s ty :: rs, t :: ts => (F s).bind fun e => match e with
    | .val (.bx true t') d => (guard' (decide (t' = t) && fitsTy T ty t' && !A.prot.contains s)).bind fun _ => (takeRes T A (F.drop s) rs ts).map (d :: ·)
    | _ => none
  | _, _, _ => none

/-- What the arguments that are changed hold in the end. -/
def finals (F : Fr) : Nat → List (PM × Ty) → Option (List D)
  | _, [] => some []
  | n, (.ino, t) :: ms => match F n with
    | some (.val t' d) => (guard' (decide (t' = t))).bind fun _ => (finals F (n + 1) ms).map (d :: ·)
    | _ => none
  | n, _ :: ms => finals F (n + 1) ms

def protOf : Nat → List (PM × Ty) → List Nat
  | _, [] => []
  | n, (.ino, _) :: ms => n :: protOf (n + 1) ms
  | n, _ :: ms => protOf (n + 1) ms

/-- A function's condition: called with xs it returns rs (and then what the arguments that it changes hold). -/
def vc (E : Env) (A : Ann) (fn : Func) (S : Sg) (xs rs : List D) : Prop :=
  match fn.body, Nat.ble S.ps.length fn.ntmps with
  | some c, true => pw E { A with prot := protOf 0 S.ps, n := fn.ntmps } c (fun q => initFr 0 S.ps xs q) fun e F => match e with
    | .exit _ => False
    | _ => orL ((takeRes E.T { A with prot := protOf 0 S.ps, n := fn.ntmps } F fn.results.toList S.rs).bind fun a => (finals F 0 S.ps).map (a ++ ·)) (· = rs)
  | _, _ => False

end Go.Pi
