/- A library of this claim: the abstract machine: its values and memory, and what each stands for. -/
import Derived.Calls
import Derived.Laws.Cover4
import Derived.Laws.CopyRow
import Derived.Laws.Cells
import Derived.Laws.Rows
set_option linter.all false
/- THE ABSTRACT MACHINE: its values, its memory, its evaluator. No program in sight. -/
namespace Am
open Go

/-- Types of plain data. A struct is pairs that end in 'unit'; 'list' is a slice that nobody writes any more. -/
inductive Ty where
  | int (k : IntKind) | bool | str | unit | pair (a b : Ty) | arr (n : Nat) (t : Ty) | list (t : Ty)
  deriving DecidableEq, Repr

@[reducible] def Ty.den : Ty → Type
  | .int _ => Int
  | .bool => Bool
  | .str => ByteArray
  | .unit => Unit
  | .pair a b => a.den × b.den
  | .arr _ t => List t.den
  | .list t => List t.den

def Ty.dflt : (t : Ty) → t.den
  | .int _ => (0 : Int)
  | .bool => false
  | .str => ByteArray.empty
  | .unit => ()
  | .pair a b => (a.dflt, b.dflt)
  | .arr n t => List.replicate n t.dflt
  | .list _ => []

def Ty.size : Ty → Nat
  | .unit => 0
  | .pair a b => a.size + b.size
  | .arr n t => n * t.size
  | _ => 1

def Ty.agg : Ty → Bool
  | .unit | .pair .. | .arr .. => true
  | _ => false

def Ty.cast (s t : Ty) (x : s.den) : Option t.den := if h : s = t then some (h ▸ x) else none

def beqL {α : Type} (f : α → α → Bool) : List α → List α → Bool
  | [], [] => true
  | a :: l, b :: m => f a b && beqL f l m
  | _, _ => false

/-- '==' of plain data that can be compared. -/
def Ty.beq : (t : Ty) → t.den → t.den → Bool
  | .int _, x, y => (x : Int) == y
  | .bool, x, y => (x : Bool) == y
  | .str, x, y => (x : ByteArray) == y
  | .unit, _, _ => true
  | .pair a b, x, y => a.beq x.1 y.1 && b.beq x.2 y.2
  | .arr _ t, x, y => beqL t.beq x y
  | .list _, _, _ => false

/-- How deep a type is. -/
def Ty.rank : Ty → Nat
  | .pair a b => max (a.rank + 1) b.rank
  | .arr _ t => t.rank + 1
  | _ => 1

def Ty.comparable : Ty → Bool
  | .pair a b => a.comparable && b.comparable
  | .arr _ t => t.comparable
  | .list _ => false
  | _ => true

inductive Step where
  | fld (i : Nat) | idx (i : Nat)

inductive AV where
  | val (t : Ty) (x : t.den)
  | ptr (id : Nat) (p : List Step)
  | nilp
  | slice (id : Nat)
  | nils
  | fn (f : FuncId) (caps : List AV)
  | nilf
  | comp (fs : List AV)
  | tup (vs : List AV)
  | elem (t : Ty) (x : t.den)
  | undef

inductive Blk where
  | var (v : AV)
  | list (t : Ty) (l : List t.den)
  | iter (s : ByteArray) (pos : Nat)
  | dead

abbrev Mem := List Blk

structure St where
  fr : List AV
  mem : Mem

mutual
def AV.size : AV → Nat
  | .val t _ => t.size
  | .comp fs => AV.sizes fs
  | _ => 1
def AV.sizes : List AV → Nat
  | [] => 0
  | v :: l => v.size + AV.sizes l
end

def AV.agg : AV → Bool
  | .val t _ => t.agg
  | .comp _ => true
  | _ => false

def AV.known : AV → Bool
  | .undef | .tup _ => false
  | _ => true

/-- The part of plain data at a path. -/
def Ty.get : (t : Ty) → List Step → t.den → Option AV
  | t, [], x => some (.val t x)
  | .pair a _, .fld 0 :: p, x => a.get p x.1
  | .pair _ b, .fld (i + 1) :: p, x => b.get (.fld i :: p) x.2
  | .arr _ t, .idx i :: p, l => t.get p (List.getD l i t.dflt)
  | _, _, _ => none

def Ty.set : (t : Ty) → List Step → AV → t.den → Option t.den
  | t, [], .val s y, _ => Ty.cast s t y
  | .pair a b, .fld 0 :: p, v, x => (a.set p v x.1).map fun y => ((y, x.2) : a.den × b.den)
  | .pair a b, .fld (i + 1) :: p, v, x => (b.set (.fld i :: p) v x.2).map fun y => ((x.1, y) : a.den × b.den)
  | .arr _ t, .idx i :: p, v, l => (t.set p v (List.getD l i t.dflt)).map fun y => List.set l i y
  | _, _, _, _ => none

/-- Where, in cells, a path leads. -/
def Ty.off : Ty → List Step → Nat
  | _, [] => 0
  | .pair a _, .fld 0 :: p => a.off p
  | .pair a b, .fld (i + 1) :: p => a.size + b.off (.fld i :: p)
  | .arr _ t, .idx i :: p => i * t.size + t.off p
  | _, _ => 0

/-- A path that leads to a place. -/
def Ty.okp : Ty → List Step → Bool
  | _, [] => true
  | .pair a _, .fld 0 :: p => a.okp p
  | .pair _ b, .fld (i + 1) :: p => b.okp (.fld i :: p)
  | .arr n t, .idx i :: p => decide (i < n) && t.okp p
  | _, _ => false

mutual
def AV.okp : AV → List Step → Bool
  | _, [] => true
  | .val t _, p => t.okp p
  | .comp fs, .fld i :: p => AV.okps fs i p
  | .comp fs, .idx i :: p => AV.okps fs i p
  | _, _ => false
def AV.okps : List AV → Nat → List Step → Bool
  | [], _, _ => false
  | v :: _, 0, p => v.okp p
  | _ :: l, i + 1, p => AV.okps l i p
end

mutual
def AV.get : AV → List Step → Option AV
  | .val t x, p => t.get p x
  | v, [] => some v
  | .comp fs, .fld i :: p => AV.gets fs i p
  | .comp fs, .idx i :: p => AV.gets fs i p
  | _, _ => none
def AV.gets : List AV → Nat → List Step → Option AV
  | [], _, _ => none
  | v :: _, 0, p => v.get p
  | _ :: l, i + 1, p => AV.gets l i p
end

def AV.atom : AV → Bool
  | .val t _ => !t.agg
  | .comp _ | .undef | .tup _ => false
  | _ => true

mutual
/-- May a value stand in the place of another one? -/
def AV.lay : AV → AV → Bool
  | .comp us, .comp vs => AV.lays us vs
  | .val t _, .val s _ => decide (t = s) || (!t.agg && !s.agg)
  | u, v => u.atom && v.atom
def AV.lays : List AV → List AV → Bool
  | [], [] => true
  | u :: us, v :: vs => u.lay v && AV.lays us vs
  | _, _ => false
end

mutual
def AV.set : AV → List Step → AV → Option AV
  | u, [], v => if u.lay v then some v else none
  | .val t x, p, v => (t.set p v x).map (.val t ·)
  | .comp fs, .fld i :: p, v => (AV.sets fs i p v).map .comp
  | .comp fs, .idx i :: p, v => (AV.sets fs i p v).map .comp
  | _, _, _ => none
def AV.sets : List AV → Nat → List Step → AV → Option (List AV)
  | [], _, _, _ => none
  | u :: l, 0, p, v => (u.set p v).map (· :: l)
  | u :: l, i + 1, p, v => (AV.sets l i p v).map (u :: ·)
end

mutual
def AV.off : AV → List Step → Nat
  | .val t _, p => t.off p
  | .comp fs, .fld i :: p => AV.offs fs i p
  | .comp fs, .idx i :: p => AV.offs fs i p
  | _, _ => 0
def AV.offs : List AV → Nat → List Step → Nat
  | [], _, _ => 0
  | v :: _, 0, p => v.off p
  | v :: l, i + 1, p => v.size + AV.offs l i p
end

def Blk.get : Blk → List Step → Option AV
  | .var v, p => v.get p
  | .list t l, .idx i :: p => t.get p (l.getD i t.dflt)
  | _, _ => none

def Blk.set : Blk → List Step → AV → Option Blk
  | .var u, p, v => (u.set p v).map .var
  | .list t l, .idx i :: p, v => (t.set p v (l.getD i t.dflt)).map fun y => .list t (l.set i y)
  | _, _, _ => none

def Blk.okp : Blk → List Step → Bool
  | .var v, p => v.okp p
  | .iter _ _, [] => true
  | .list t l, .idx i :: p => decide (i < l.length) && t.okp p
  | _, _ => false

def Blk.off : Blk → List Step → Nat
  | .var v, p => v.off p
  | .list t _, .idx i :: p => i * t.size + t.off p
  | _, _ => 0

/-- What is told of a type of the program. -/
inductive TD where
  | int (k : IntKind) | bool | str | ptr | slice (e : TypeId) | arr (n : Nat) (e : TypeId) | struct (fs : List (TypeId × Nat)) | func | other
  deriving Inhabited

structure TRow where
  td : TD
  size : Nat
  agg : Bool
  zero : Option AV
  ty : Option Ty
  eq : Bool := false

def Blk.lay : Blk → Blk → Bool
  | .var u, .var v => u.lay v
  | .list t l, .list s m => decide (t = s) && decide (l.length = m.length)
  | .iter .., .iter .. => true
  | .dead, .dead => true
  | _, _ => false

def TRow.ok (r : TRow) : Bool := match r.td with | .other => false | _ => true

inductive Cls where
  | pure | make | wild
  deriving DecidableEq, Repr

structure Summ where
  cls : Cls
  run : {R : Type} → List AV → Mem → (AV → Mem → Option R) → Option R

inductive Ex where
  | normal | exit (id : Nat) | ret
  deriving DecidableEq

structure LoopSum where
  run : {R : Type} → St → (Ex → St → Option R) → Option R

def bAnd (k : IntKind) (x y : Int) : Int := k.wrap (BitVec.ofInt k.bits x &&& BitVec.ofInt k.bits y).toNat
def bOr (k : IntKind) (x y : Int) : Int := k.wrap (BitVec.ofInt k.bits x ||| BitVec.ofInt k.bits y).toNat
def bXor (k : IntKind) (x y : Int) : Int := k.wrap (BitVec.ofInt k.bits x ^^^ BitVec.ofInt k.bits y).toNat
def bAndNot (k : IntKind) (x y : Int) : Int := k.wrap (BitVec.ofInt k.bits x &&& ~~~(BitVec.ofInt k.bits y)).toNat
def shl (k : IntKind) (x y : Int) : Int := k.wrap (x * 2 ^ (min y.toNat k.bits))
def shr (k : IntKind) (x y : Int) : Int := x.fdiv (2 ^ (min y.toNat k.bits))

def constAV : Value → AV
  | .int k n => .val (.int k) n
  | .bool b => .val .bool b
  | .string s => .val .str s
  | .pointer none => .nilp
  | .slice none 0 0 => .nils
  | .nilFunc => .nilf
  | _ => .undef

def St.ev (fr : List AV) : Operand → AV
  | .tmp t => fr.getD t .undef
  | .const v => constAV v
  | .global _ => .undef
  | .func f => .fn f []

def St.put (st : St) (d : Option Nat) (v : AV) : St :=
  match d with
  | some d => { st with fr := st.fr.set d v }
  | none => st

section
variable {R : Type}

/-- An operation of two whole numbers of one kind. -/
def intK (op : BinOp) (k : IntKind) (a b : Int) (K : AV → Option R) : Option R :=
  match op with
  | .add => K (.val (.int k) (k.wrap (a + b)))
  | .sub => K (.val (.int k) (k.wrap (a - b)))
  | .mul => K (.val (.int k) (k.wrap (a * b)))
  | .quo => cond (b == 0) none (K (.val (.int k) (k.wrap (a.tdiv b))))
  | .rem => cond (b == 0) none (K (.val (.int k) (a.tmod b)))
  | .and => K (.val (.int k) (bAnd k a b))
  | .or => K (.val (.int k) (bOr k a b))
  | .xor => K (.val (.int k) (bXor k a b))
  | .andNot => K (.val (.int k) (bAndNot k a b))
  | .eql => K (.val .bool (a == b))
  | .neq => K (.val .bool (a != b))
  | .lss => K (.val .bool (decide (a < b)))
  | .leq => K (.val .bool (decide (a ≤ b)))
  | .gtr => K (.val .bool (decide (a > b)))
  | .geq => K (.val .bool (decide (a ≥ b)))
  | _ => none

def strK (op : BinOp) (a b : ByteArray) (K : AV → Option R) : Option R :=
  match op with
  | .add => cond (decide (a.size + b.size ≤ 9223372036854775807)) (K (.val .str (a ++ b))) none
  | .eql => K (.val .bool (a.toList == b.toList))
  | .neq => K (.val .bool (!(a.toList == b.toList)))
  | _ => none

def eqK (r : TRow) (neg : Bool) (x y : AV) (K : AV → Option R) : Option R :=
  match x, y with
  | .val s a, .val t b =>
    if r.ok && r.eq && decide (r.ty = some s) && decide (s.rank ≤ 100) then
      match Ty.cast t s b with
      | some b => K (.val .bool (if neg then !(s.beq a b) else s.beq a b))
      | none => none
    else none
  | .nilp, .nilp => match r.td with | .ptr => K (.val .bool (!neg)) | _ => none
  | .ptr _ _, .nilp => match r.td with | .ptr => K (.val .bool neg) | _ => none
  | _, _ => none

def binK (r : TRow) (op : BinOp) (x y : AV) (K : AV → Option R) : Option R :=
  match x, y with
  | .val (.int k) a, .val (.int k') b =>
    match op with
    | .shl => cond (decide (b < 0)) none (K (.val (.int k) (shl k a b)))
    | .shr => cond (decide (b < 0)) none (K (.val (.int k) (shr k a b)))
    | _ => if k = k' then intK op k a b K else none
  | .val .str a, .val .str b => strK op a b K
  | x, y =>
    match op with
    | .eql => eqK r false x y K
    | .neq => eqK r true x y K
    | _ => none

def unK (op : UnOp) (x : AV) (K : AV → Option R) : Option R :=
  match op, x with
  | .neg, .val (.int k) n => K (.val (.int k) (k.wrap (0 - n)))
  | .xor, .val (.int k) n => K (.val (.int k) (bXor k (if k.signed then -1 else k.max) n))
  | .not, .val .bool b => K (.val .bool (!b))
  | _, _ => none

/-- A value as plain data of a type: a slice that is told so is frozen. -/
def asTy (t : Ty) (v : AV) (mem : Mem) : Option (t.den × Mem) :=
  match v with
  | .val s x => (Ty.cast s t x).map (·, mem)
  | .nils => match t with | .list _ => some ([], mem) | _ => none
  | .slice id => match t, mem[id]? with
    | .list s, some (.list s' l) => (Ty.cast (.list s') (.list s) l).map (·, mem.set id .dead)
    | _, _ => none
  | _ => none

/-- The cells of plain data's list, in the order of its places, some given, the others as at first. -/
def fillL (t : Ty) : List (Nat × AV) → List t.den → Mem → Option (List t.den × Mem)
  | [], l, mem => some (l, mem)
  | (i, v) :: ps, l, mem => if i < l.length then match asTy t v mem with
      | some (x, mem) => fillL t ps (l.set i x) mem
      | none => none
    else none

/-- A struct's parts put into plain data. -/
def fillS (t : Ty) : List (Nat × AV) → t.den → Option t.den
  | [], x => some x
  | (i, v) :: ps, x => match t.set [.fld i] v x with
    | some x => fillS t ps x
    | none => none

def fillR : List (Nat × AV) → List AV → Option (List AV)
  | [], fs => some fs
  | (i, v) :: ps, fs => match AV.sets fs i [] v with
    | some fs => fillR ps fs
    | none => none

def inB (j : Int) (n : Nat) : Bool := decide (0 ≤ j) && decide (j < n)

/-- One of several, by a number. -/
def oneOf (j : Int) (n : Nat) (K : Nat → Option R) : Nat → Option R
  | 0 => none
  | i + 1 => cond (j == ((n - (i + 1) : Nat) : Int)) (K (n - (i + 1))) (oneOf j n K i)

end
end Am

/- THE ABSTRACT MACHINE: its evaluator. -/
namespace Am
open Go

section
variable {R : Type} (T : TypeId → TRow) (Γ : FuncId → Option Summ) (Λ : Nat → Option LoopSum)

def chk (r : TRow) (v : AV) : Bool := r.ok && (v.size == r.size && v.agg == r.agg && v.known)

def loadK (t : TypeId) (a : AV) (mem : Mem) (k : AV → Option R) : Option R :=
  match a with
  | .ptr id p => match mem[id]? with
    | some b => match b.get p with
      | some v => if chk (T t) v then k v else none
      | none => none
    | none => none
  | .elem s x => if chk (T t) (.val s x) then k (.val s x) else none
  | _ => none

/-- The same laying as ahead of a store; a list keeps its length by itself. -/
def Blk.layS : Blk → Blk → Bool
  | .var u, .var v => u.lay v
  | .list t _, .list s _ => decide (t = s)
  | _, _ => false

theorem Blk.layS_lay {b b' : Blk} {p : List Step} {v : AV} (h : b.set p v = some b') (hl : b.layS b' = true) : b.lay b' = true := by
  cases b with
  | var u => cases b' <;> first | exact hl | cases hl
  | list t l =>
    cases b' with
    | list s m =>
      simp only [Blk.layS, decide_eq_true_eq] at hl
      subst hl
      cases p with
      | nil => simp [Blk.set] at h
      | cons st p =>
        cases st with
        | fld i => simp [Blk.set] at h
        | idx i =>
          simp only [Blk.set, Option.map_eq_some_iff] at h
          obtain ⟨y, _, hy⟩ := h
          cases hy
          simp [Blk.lay]
    | _ => cases hl
  | _ => cases hl

def storeK (t : TypeId) (a v : AV) (mem : Mem) (k : AV → Mem → Option R) : Option R :=
  match a with
  | .ptr id p => match mem[id]? with
    | some b => if (T t).ok && v.size == (T t).size then match b.set p v with
      | some b' => if b.layS b' then k .undef (mem.set id b') else none
      | none => none
      else none
    | none => none
  | _ => none

def fieldAddrK (s : TypeId) (a : AV) (i : Nat) (mem : Mem) (k : AV → Option R) : Option R :=
  match (T s).td with
  | .struct fs => match fs[i]? with
    | some (ft, off) => match a with
      | .ptr id p => match mem[id]? with
        | some b => match b.get p with
          | some u => match u.get [.fld i] with
            | some c => if u.off [.fld i] == off && (T ft).ok && c.size == (T ft).size && !(c.size == 0) then k (.ptr id (p ++ [.fld i])) else none
            | none => none
          | none => none
        | none => none
      | .elem ty x => match ty.get [.fld i] x with
        | some (.val s' y) => if ty.off [.fld i] == off && (T ft).ok && s'.size == (T ft).size && !(s'.size == 0) then k (.elem s' y) else none
        | _ => none
      | _ => none
    | none => none
  | _ => none

def fieldK (s : TypeId) (v : AV) (i : Nat) (k : AV → Option R) : Option R :=
  match (T s).td with
  | .struct fs => match fs[i]? with
    | some (ft, off) => if v.agg then match v.get [.fld i] with
      | some c => if v.off [.fld i] == off && chk (T ft) c then k c else none
      | none => none
      else none
    | none => none
  | _ => none

def indexAddrK (t : TypeId) (a ix : AV) (mem : Mem) (k : AV → Option R) : Option R :=
  match ix with
  | .val (.int _) j => match (T t).td with
    | .arr n e => match a with
      | .ptr id p => match mem[id]? with
        | some b => match b.get p with
          | some (.val (.arr m s) _) =>
            if m == n && (T e).ok && s.size == (T e).size then cond (inB j n) (k (.ptr id (p ++ [.idx j.toNat]))) none else none
          | some (.comp fs) =>
            if fs.length == n && fs.all (fun v => v.size == 1) && (T e).ok && (T e).size == 1 then oneOf j n (fun i => k (.ptr id (p ++ [.idx i]))) n else none
          | _ => none
        | none => none
      | _ => none
    | .slice e => match a with
      | .slice id => match mem[id]? with
        | some (.list s l) => if (T e).ok && s.size == (T e).size then cond (inB j l.length) (k (.ptr id [.idx j.toNat])) none else none
        | _ => none
      | .val (.list s) l => if (T e).ok && s.size == (T e).size then cond (inB j l.length) (k (.elem s (List.getD l j.toNat s.dflt))) none else none
      | _ => none
    | _ => none
  | _ => none

def indexK (t : TypeId) (v ix : AV) (k : AV → Option R) : Option R :=
  match ix with
  | .val (.int _) j => match (T t).td, v with
    | .arr n e, .val (.arr m s) l =>
      if m == n && (T e).ok && s.size == (T e).size && s.agg == (T e).agg then cond (inB j n) (k (.val s (List.getD l j.toNat s.dflt))) none else none
    | .str, .val .str s => cond (inB j (ByteArray.size s)) (k (.val (.int .u8) (((ByteArray.data s).getD j.toNat 0).toNat : Int))) none
    | _, _ => none
  | _ => none

/-- The parts of a struct lie where the type says. -/
def partsOk (fs : List (TypeId × Nat)) (off : Nat → Nat) (ps : List (Nat × AV)) : Bool :=
  ps.all fun p => match fs[p.1]? with
    | some (ft, o) => off p.1 == o && (T ft).ok && p.2.size == (T ft).size && p.2.known
    | none => false

def buildK (t : TypeId) (ps : List (Nat × AV)) (k : AV → Option R) : Option R :=
  match (T t).td, (T t).zero with
  | .struct fs, some (.val s x) => if partsOk T fs (fun i => s.off [.fld i]) ps then match fillS s ps x with
      | some y => k (.val s y)
      | none => none
    else none
  | .struct fs, some (.comp us) => if partsOk T fs (fun i => AV.offs us i []) ps then match fillR ps us with
      | some us => k (.comp us)
      | none => none
    else none
  | .arr _ e, some (.val (.arr n s) l) => if (T e).ok && s.size == (T e).size then match fillL s ps l [] with
      | some (l, _) => k (.val (.arr n s) l)
      | none => none
    else none
  | .arr _ e, some (.comp us) => if (T e).ok && (T e).size == 1 && us.all (fun v => v.size == 1) && ps.all (fun p => p.2.known) then match fillR ps us with
      | some us => k (.comp us)
      | none => none
    else none
  | _, _ => none

def buildSliceK (t : TypeId) (n : Nat) (ps : List (Nat × AV)) (mem : Mem) (k : AV → Mem → Option R) : Option R :=
  match (T t).td with
  | .slice e => match (T e).ty with
    | some s => if !(T e).ok || !(decide (n * s.size ≤ 1000)) then none else match fillL s ps (List.replicate n s.dflt) mem with
      | some (l, mem) => k (.slice mem.length) (mem ++ [.list s l])
      | none => none
    | none => none
  | _ => none

def sliceStrK (s : ByteArray) (lo hi : Int) (k : AV → Option R) : Option R :=
  cond (decide (0 ≤ hi) && decide (hi ≤ (s.size : Int))) (cond (decide (0 ≤ lo) && decide (lo ≤ hi)) (k (.val .str (s.extract lo.toNat hi.toNat))) none) none

def sliceK (t : TypeId) (v : AV) (lo hi mx : Option AV) (mem : Mem) (k : AV → Mem → Option R) : Option R :=
  match (T t).td, v, lo, hi, mx with
  | .str, .val .str s, some (.val (.int _) a), some (.val (.int _) b), none => sliceStrK s a b (k · mem)
  | .str, .val .str s, none, some (.val (.int _) b), none => sliceStrK s 0 b (k · mem)
  | .str, .val .str s, some (.val (.int _) a), none, none => sliceStrK s a (ByteArray.size s) (k · mem)
  | .slice e, .slice id, none, some (.val (.int _) b), none => if !(T e).ok then none else match mem[id]? with
    | some (.list s l) => cond (decide (0 ≤ b) && decide (b ≤ (l.length : Int))) (k (.slice mem.length) (mem.set id .dead ++ [.list s (l.take b.toNat)])) none
    | _ => none
  | _, _, _, _, _ => none

def nextK (it : AV) (mem : Mem) (k : AV → Mem → Option R) : Option R :=
  match it with
  | .ptr id [] => match mem[id]? with
    | some (.iter s pos) =>
      cond (decide (pos < s.size))
        (k (.tup [.val .bool true, .val (.int .i64) (pos : Int), .val (.int .i32) (Utf8.decode s pos).1]) (mem.set id (.iter s (pos + (Utf8.decode s pos).2))))
        (k (.tup [.val .bool false]) mem)
    | _ => none
  | _ => none

def lenK (r : TRow) (v : AV) (mem : Mem) (k : AV → Option R) : Option R :=
  match r.td, v with
  | .slice _, .slice id => match mem[id]? with
    | some (.list _ l) => k (.val (.int .i64) (l.length : Int))
    | _ => none
  | .slice _, .val (.list _) l => k (.val (.int .i64) (List.length l : Int))
  | .slice _, .nils => k (.val (.int .i64) 0)
  | .str, .val .str s => k (.val (.int .i64) (ByteArray.size s : Int))
  | _, _ => none

/-- 'append(x, y...)'; what is appended to may be nil. -/
def appendK (t : TypeId) (x y : AV) (mem : Mem) (k : AV → Mem → Option R) : Option R :=
  match (T t).td with
  | .slice e => match (T e).ty with
    | some s => if !(T e).ok || s.size == 0 then none else match asTy (.list s) y mem with
      | some (m, _) =>
        match x with
        | .nils => cond (decide (m.length ≤ 34359738368)) (k (.slice mem.length) (mem ++ [.list s m])) none
        | .slice id => match mem[id]? with
          | some (.list s' l) => match Ty.cast (.list s') (.list s) l with
            | some l => cond (decide (l.length + m.length ≤ 34359738368)) (k (.slice mem.length) (mem.set id .dead ++ [.list s (l ++ m)])) none
            | none => none
          | _ => none
        | _ => none
      | none => none
    | none => none
  | _ => none

def maxK (x y : AV) (k : AV → Option R) : Option R :=
  match x, y with
  | .val (.int i) a, .val (.int _) b => k (.val (.int i) (if b > a then b else a))
  | _, _ => none

def builtinK (b : Builtin) (ts : List TypeId) (vs : List AV) (mem : Mem) (k : AV → Mem → Option R) : Option R :=
  match b, ts, vs with
  | .len, t :: _, [v] => lenK (T t) v mem (k · mem)
  | .append, [t, t2], [x, y] => if t == t2 then appendK T t x y mem k else none
  | .max, _, [x, y] => maxK x y (k · mem)
  | _, _, _ => none

def isRunes (r : TRow) (T : TypeId → TRow) : Bool :=
  match r.td with
  | .slice e => match (T e).td with | .int .i32 => (T e).size == 1 | _ => false
  | _ => false

def convK (src dst : TypeId) (v : AV) (mem : Mem) (k : AV → Option R) : Option R :=
  if (T src).ok then
    match (T dst).td, v with
    | .int j, .val (.int _) n => k (.val (.int j) (j.wrap n))
    | .str, .val (.int _) n => k (.val .str (Utf8.encode n))
    | .str, .slice id => match mem[id]? with
      | some (.list (.int .i32) l) => if isRunes (T src) T then k (.val .str (runesBytes l)) else none
      | _ => none
    | _, _ => none
  else none

def opK (o : Op) (ev : Operand → AV) (mem : Mem) (k : AV → Mem → Option R) : Option R :=
  match o with
  | .move x | .assign x => k (ev x) mem
  | .pick c a b => match ev c with
    | .val .bool t => match ev a, ev b with
      | .val .bool x, .val .bool y => k (.val .bool (cond t x y)) mem
      | u, v => cond t (k u mem) (k v mem)
    | _ => none
  | .alloc t => match (T t).zero with
    | some z => if (T t).ok then k (.ptr mem.length []) (mem ++ [.var z]) else none
    | none => none
  | .box _ x => if (ev x).known then k (.ptr mem.length []) (mem ++ [.var (ev x)]) else none
  | .build t ps => buildK T t (ps.toList.map fun p => (p.1, ev p.2)) (k · mem)
  | .buildSlice t n ps => buildSliceK T t n (ps.toList.map fun p => (p.1, ev p.2)) mem k
  | .load t a => loadK T t (ev a) mem (k · mem)
  | .store t a x => storeK T t (ev a) (ev x) mem k
  | .nilCheck x => match ev x with
    | .ptr id p => k (.ptr id p) mem
    | .elem s y => k (.elem s y) mem
    | .fn f cs => k (.fn f cs) mem
    | _ => none
  | .binOp op t x y _ => binK (T t) op (ev x) (ev y) (k · mem)
  | .unOp op _ x => unK op (ev x) (k · mem)
  | .convert src dst x => convK T src dst (ev x) mem (k · mem)
  | .makeFunc (.func f) first caps => if first.isEmpty then k (.fn f (caps.toList.map ev)) mem else none
  | .slice t x lo hi mx => sliceK T t (ev x) (lo.map ev) (hi.map ev) (mx.map ev) mem k
  | .fieldAddr s x i => fieldAddrK T s (ev x) i mem (k · mem)
  | .field s x i => fieldK T s (ev x) i (k · mem)
  | .indexAddr t x i => indexAddrK T t (ev x) (ev i) mem (k · mem)
  | .index t x i => indexK T t (ev x) (ev i) (k · mem)
  | .range t x => match (T t).td, ev x with
    | .str, .val .str s => k (.ptr mem.length []) (mem ++ [.iter s 0])
    | _, _ => none
  | .next it true => nextK (ev it) mem k
  | .extract t i => match ev t with
    | .tup vs => match vs[i]? with
      | some v => k v mem
      | none => none
    | _ => none
  | .call c => match c.callee with
    | .builtin b => builtinK T b c.argTypes.toList (c.args.toList.map ev) mem k
    | .value f => match ev f with
      | .fn f caps => match Γ f with
        | some S => S.run (c.args.toList.map ev ++ caps) mem k
        | none => none
      | _ => none
    | _ => none
  | _ => none

/-- One operation by its number. -/
def stepK (ops : List Oper) (i : Nat) (st : St) (k : St → Option R) : Option R :=
  match ops[i]? with
  | none => none
  | some o => match o.guard with
    | none => opK T Γ o.op (St.ev st.fr) st.mem fun v mem => k (St.put ⟨st.fr, mem⟩ o.dst v)
    | some (j, want) => match (ops[j]?).bind (·.dst) with
      | none => none
      | some d => match st.fr.getD d .undef with
        | .val .bool b =>
          let run (fr : List AV) : Option R := opK T Γ o.op (St.ev fr) st.mem fun v mem => k (St.put ⟨fr, mem⟩ o.dst v)
          let skip (fr : List AV) : Option R := k (St.put ⟨fr, st.mem⟩ o.dst (.tup []))
          if want then cond b (run (st.fr.set d (.val .bool true))) (skip (st.fr.set d (.val .bool false)))
          else cond b (skip (st.fr.set d (.val .bool true))) (run (st.fr.set d (.val .bool false)))
        | .tup [] => k (St.put st o.dst (.tup []))
        | _ => none

def opsK (ops : List Oper) : List Nat → St → (St → Option R) → Option R
  | [], st, k => k st
  | i :: l, st, k => stepK T Γ ops i st fun st => opsK ops l st k

/-- What an operation does to memory: 'addr' asks how it is laid out, 'read' reads it, 'make' makes a block more. -/
inductive MC where
  | none | addr | read | make | store | wild
  deriving DecidableEq

def opCls : Op → MC
  | .move _ | .assign _ | .pick .. | .build .. | .nilCheck _ | .binOp .. | .unOp .. | .makeFunc .. | .field .. | .index .. | .extract .. => .none
  | .fieldAddr .. | .indexAddr .. => .addr
  | .load .. | .convert .. => .read
  | .alloc _ | .box .. => .make
  | .store .. => .store
  | .slice t .. => match (T t).td with
    | .str => .none
    | _ => .wild
  | .call c => match c.callee with
    | .builtin .len => .read
    | .builtin .max => .none
    | .value (.func f) => match Γ f with
      | some S => match S.cls with
        | .pure => .none
        | .make => .make
        | .wild => .wild
      | none => .wild
    | _ => .wild
  | _ => .wild

def MC.apart : MC → MC → Bool
  | .none, _ | _, .none => true
  | .addr, .wild | .wild, .addr => false
  | .addr, _ | _, .addr => true
  | .read, .read | .read, .make | .make, .read => true
  | _, _ => false

/-- The slots that an operation looks at. -/
def looksL (ops : List Oper) (o : Oper) : List Nat :=
  (o.op.operands.toList.filterMap fun | .tmp t => some t | _ => none) ++
  (match o.guard with
   | some (g, _) => ((ops[g]?).bind (·.dst)).toList
   | none => [])

def slotsApart (ops : List Oper) (x y : Oper) : Bool :=
  (match x.dst with
   | some d => !((looksL ops y).contains d) && y.dst != some d
   | none => true) &&
  (match y.dst with
   | some d => !((looksL ops x).contains d)
   | none => true)

def directs (o : Oper) : List Nat := o.after.toList.filterMap fun e => if Region.binds .any e then some e.on else none

/-- Of each operation those that must stand ahead of it, as bits. -/
def masks : List Oper → List Nat → List Nat
  | [], acc => acc
  | o :: l, acc => masks l (acc ++ [(directs o).foldl (fun m e => m ||| (2 ^ e ||| acc.getD e 0)) 0])

/-- A load and a store: the slots of their addresses. -/
def lsPair (x y : Op) : Option (Nat × Nat) :=
  match x, y with
  | .load _ (.tmp a), .store _ (.tmp b) _ => some (a, b)
  | .store _ (.tmp a) _, .load _ (.tmp b) => some (a, b)
  | _, _ => none

/-- A load and a store that may change places if their addresses lead apart, which is looked at behind the region: nobody writes the addresses' slots any more. -/
def lsFine (ops : List Oper) (ms : List Nat) (j i : Nat) (x y : Oper) : Bool :=
  match lsPair x.op y.op with
  | some (a, b) => (ops.zipIdx.all fun w => w.1.dst != some a || decide (w.2 < j)) && (ops.zipIdx.all fun w => w.1.dst != some b || (decide (w.2 < j) || (ms.getD i 0).testBit w.2))
  | none => false

/-- The order of a region may be left open: whatever may stand in either order does not meddle with one another. -/
def orderly (ops : List Oper) : Bool :=
  let ms := masks ops []
  (ops.zipIdx.all fun p => (directs p.1).all fun e => decide (e < p.2)) &&
  (ops.zipIdx.all fun p => (ops.zipIdx.take p.2).all fun q => (ms.getD p.2 0).testBit q.2 || (slotsApart ops q.1 p.1 && (MC.apart (opCls T Γ q.1.op) (opCls T Γ p.1.op) || lsFine ops ms q.2 p.2 q.1 p.1)))

def apartAt (fr : List AV) (p : Nat × Nat) : Bool :=
  match fr.getD p.1 .undef, fr.getD p.2 .undef with
  | .ptr i _, .ptr j _ => !(i == j)
  | _, _ => false

/-- What is to be looked at behind a region. -/
def dynPairs (ops : List Oper) : List (Nat × Nat) :=
  let ms := masks ops []
  ops.zipIdx.flatMap fun p => (ops.zipIdx.take p.2).filterMap fun q =>
    cond ((ms.getD p.2 0).testBit q.2 || MC.apart (opCls T Γ q.1.op) (opCls T Γ p.1.op)) none (lsPair q.1.op p.1.op)

def dynFine (draw : Bool) (ops : List Oper) (fr : List AV) : Bool := cond draw ((dynPairs T Γ ops).all (apartAt fr)) true

def refine (fr : List AV) (c : Operand) (b : Bool) : List AV :=
  match c with
  | .tmp t => fr.set t (.val .bool b)
  | _ => fr

/-! A state is brought to its constructors before code goes on: it says nothing, and spares the kernel long ways. -/
def forceN {R : Type} (n : Nat) (k : Nat → R) : R := match n with
  | 0 => k 0
  | n + 1 => k (n + 1)
def forceV {R : Type} (v : AV) (k : AV → R) : R := match v with
  | .val t x => k (.val t x)
  | .ptr id p => forceN id fun id => k (.ptr id p)
  | .nilp => k .nilp
  | .slice id => forceN id fun id => k (.slice id)
  | .nils => k .nils
  | .fn f caps => k (.fn f caps)
  | .nilf => k .nilf
  | .comp fs => k (.comp fs)
  | .tup vs => k (.tup vs)
  | .elem t x => k (.elem t x)
  | .undef => k .undef
def forceL {R : Type} : List AV → (List AV → R) → R
  | [], k => k []
  | v :: l, k => forceV v fun v => forceL l fun l => k (v :: l)
def forceB {R : Type} (b : Blk) (k : Blk → R) : R := match b with
  | .var v => forceV v fun v => k (.var v)
  | .list t l => k (.list t l)
  | .iter s p => k (.iter s p)
  | .dead => k .dead
def forceM {R : Type} : List Blk → (List Blk → R) → R
  | [], k => k []
  | b :: l, k => forceB b fun b => forceM l fun l => k (b :: l)
def forceSt {R : Type} (st : St) (k : St → R) : R := forceL st.fr fun fr => forceM st.mem fun mem => k ⟨fr, mem⟩

theorem forceN_eq {R : Type} (n : Nat) (k : Nat → R) : forceN n k = k n := by cases n <;> rfl
theorem forceV_eq {R : Type} (v : AV) (k : AV → R) : forceV v k = k v := by cases v <;> simp only [forceV, forceN_eq]
theorem forceL_eq {R : Type} : ∀ (l : List AV) (k : List AV → R), forceL l k = k l
  | [], _ => rfl
  | v :: l, k => by simp only [forceL]; rw [forceV_eq, forceL_eq l]
theorem forceB_eq {R : Type} (b : Blk) (k : Blk → R) : forceB b k = k b := by cases b <;> simp only [forceB, forceV_eq]
theorem forceM_eq {R : Type} : ∀ (l : List Blk) (k : List Blk → R), forceM l k = k l
  | [], _ => rfl
  | b :: l, k => by simp only [forceM]; rw [forceB_eq, forceM_eq l]
theorem forceSt_eq {R : Type} (st : St) (k : St → R) : forceSt st k = k st := by
  unfold forceSt; rw [forceL_eq, forceM_eq]

/-- The end of a list of whole numbers is cleared: 's[i:]' is taken and cleared, the last two operations of a region of four. -/
def clearAt (ops : List Oper) : Option (TypeId × Nat × Nat × Nat) :=
  match ops with
  | [_, _, ⟨some d2, .slice t (.tmp e0) (some (.tmp e1)) none none, _, _, _, none⟩, ⟨none, .call c, _, _, _, none⟩] =>
    match c.callee, c.args.toList, c.argTypes.toList with
    | .builtin .clear, [.tmp d], [t'] => if d == d2 && t == t' then some (t, d2, e0, e1) else none
    | _, _, _ => none
  | _ => none

def clearK (t : TypeId) (d2 e0 e1 : Nat) (st : St) (k : St → Option R) : Option R :=
  match (T t).td, st.fr.getD e0 .undef, st.fr.getD e1 .undef with
  | .slice e, .slice id, .val (.int _) j => match st.mem[id]? with
    | some (.list (.int ki) l) =>
      if (T e).ok && decide ((T e).ty = some (.int ki)) && decide (d2 < st.fr.length) then
        cond (decide (0 ≤ j) && decide (j ≤ (l.length : Int))) (k ⟨st.fr.set d2 .undef, st.mem.set id (.list (.int ki) (l.take j.toNat ++ List.replicate (l.length - j.toNat) 0))⟩) none
      else none
    | _ => none
  | _, _, _ => none

def codeK (cur : Nat) : Code → St → (Ex → St → Option R) → Option R
  | .skip, st, k => k .normal st
  | .region _ ops draw, st, k =>
    if draw && !orderly T Γ ops.toList then none else match cond draw none (clearAt ops.toList) with
      | some (t, d2, e0, e1) => opsK T Γ ops.toList [0, 1] st fun st => clearK T t d2 e0 e1 st fun st => k .normal st
      | none => opsK T Γ ops.toList (List.range ops.size) st fun st => cond (dynFine T Γ draw ops.toList st.fr) (k .normal st) none
  | .seq a b, st, k => codeK cur a st fun e st => match e with
    | .normal => forceSt st fun st => codeK cur b st k
    | e => k e st
  | .cond c x y, st, k => match St.ev st.fr c with
    | .val .bool b => cond b (forceSt ⟨refine st.fr c true, st.mem⟩ fun st => codeK cur x st k) (forceSt ⟨refine st.fr c false, st.mem⟩ fun st => codeK cur y st k)
    | _ => none
  | .block id c, st, k => codeK id c st fun e st => match e with
    | .exit id' => if id' == id then k .normal st else k e st
    | e => k e st
  | .loop _, st, k => match Λ cur with
    | some S => S.run st k
    | none => none
  | .exit id, st, k => k (.exit id) st
  | .ret, st, k => k .ret st
  | _, _, _ => none

def resK : List ResultVar → St → List AV → (List AV → Option R) → Option R
  | [], _, vs, k => k vs.reverse
  | .tmp t :: l, st, vs, k => resK l st (st.fr.getD t .undef :: vs) k
  | .cell a t :: l, st, vs, k => loadK T t (st.fr.getD a .undef) st.mem fun v => resK l st (v :: vs) k

def fnK (fn : Func) (args : List AV) (mem : Mem) (k : AV → Mem → Option R) : Option R :=
  match fn.body with
  | some c => codeK T Γ Λ 0 c ⟨args ++ List.replicate (fn.ntmps - args.length) .undef, mem⟩ fun e st =>
    match e with
    | .exit _ => none
    | _ => resK T fn.results.toList st [] fun vs => match vs with
      | [v] => k v st.mem
      | vs => k (.tup vs) st.mem
  | none => none

end
end Am

/- THE ABSTRACT MACHINE: templates: states in which typed values stand at some places. -/
namespace Am
open Go

/-- The shape of a value: 'hole' is plain data of a type. -/
inductive Sh where
  | undef | hole (t : Ty) | elem (t : Ty) | ptr (id : Nat) (p : List Step) | nilp | slice (id : Nat) | nils
  | fn (f : FuncId) (caps : List Sh) | nilf | comp (fs : List Sh) | tup (vs : List Sh)

inductive BSh where
  | var (s : Sh) | list (t : Ty) | iter | dead

mutual
@[reducible] def Sh.den : Sh → Type → Type
  | .hole t, X => t.den × X
  | .elem t, X => t.den × X
  | .fn _ cs, X => Sh.dens cs X
  | .comp fs, X => Sh.dens fs X
  | .tup vs, X => Sh.dens vs X
  | _, X => X
@[reducible] def Sh.dens : List Sh → Type → Type
  | [], X => X
  | s :: l, X => s.den (Sh.dens l X)
end

@[reducible] def BSh.den : BSh → Type → Type
  | .var s, X => s.den X
  | .list t, X => List t.den × X
  | .iter, X => ByteArray × Nat × X
  | .dead, X => X

@[reducible] def BSh.dens : List BSh → Type → Type
  | [], X => X
  | b :: l, X => b.den (BSh.dens l X)

mutual
def Sh.enc : (s : Sh) → (X : Type) → s.den X → AV × X
  | .undef, _, x => (.undef, x)
  | .hole t, _, x => (.val t x.1, x.2)
  | .elem t, _, x => (.elem t x.1, x.2)
  | .ptr i p, _, x => (.ptr i p, x)
  | .nilp, _, x => (.nilp, x)
  | .slice i, _, x => (.slice i, x)
  | .nils, _, x => (.nils, x)
  | .fn f cs, X, x => ((.fn f (Sh.encs cs X x).1), (Sh.encs cs X x).2)
  | .nilf, _, x => (.nilf, x)
  | .comp fs, X, x => ((.comp (Sh.encs fs X x).1), (Sh.encs fs X x).2)
  | .tup vs, X, x => ((.tup (Sh.encs vs X x).1), (Sh.encs vs X x).2)
def Sh.encs : (l : List Sh) → (X : Type) → Sh.dens l X → List AV × X
  | [], _, x => ([], x)
  | s :: l, X, x => ((s.enc (Sh.dens l X) x).1 :: (Sh.encs l X (s.enc (Sh.dens l X) x).2).1, (Sh.encs l X (s.enc (Sh.dens l X) x).2).2)
end

def BSh.enc : (b : BSh) → (X : Type) → b.den X → Blk × X
  | .var s, X, x => (.var (s.enc X x).1, (s.enc X x).2)
  | .list t, _, x => (.list t x.1, x.2)
  | .iter, _, x => (.iter x.1 x.2.1, x.2.2)
  | .dead, _, x => (.dead, x)

def BSh.encs : (l : List BSh) → (X : Type) → BSh.dens l X → List Blk × X
  | [], _, x => ([], x)
  | b :: l, X, x => ((b.enc (BSh.dens l X) x).1 :: (BSh.encs l X (b.enc (BSh.dens l X) x).2).1, (BSh.encs l X (b.enc (BSh.dens l X) x).2).2)

/-- A state's shape. -/
structure StSh where
  fr : List Sh
  mem : List BSh

@[reducible] def StSh.den (s : StSh) : Type := Sh.dens s.fr (BSh.dens s.mem Unit)

def StSh.enc (s : StSh) (x : s.den) : St :=
  ⟨(Sh.encs s.fr (BSh.dens s.mem Unit) x).1, (BSh.encs s.mem Unit (Sh.encs s.fr (BSh.dens s.mem Unit) x).2).1⟩

/-- Which block of the state each block of the shape is ('some none': no block at all, an empty slice), and which ones are lent. -/
structure Env where
  b : List (Option (Option Nat))
  l : List Nat

def oEq : Option Nat → Option Nat → Bool
  | none, none => true
  | some i, some j => i == j
  | _, _ => false

def Env.bind (e : Env) (i : Nat) (j : Option Nat) : Option Env :=
  match e.b[i]? with
  | some none => some ⟨e.b.set i (some j), e.l⟩
  | some (some j') => cond (oEq j' j) (some e) none
  | none => none

def Env.lend (e : Env) (i : Nat) : Env := ⟨e.b, i :: e.l⟩

def stepEq : List Step → List Step → Bool
  | [], [] => true
  | .fld i :: p, .fld j :: q => i == j && stepEq p q
  | .idx i :: p, .idx j :: q => i == j && stepEq p q
  | _, _ => false

mutual
/-- Nothing is left out. -/
def Sh.solid : Sh → Bool
  | .undef | .tup _ => false
  | .comp fs => Sh.solids fs
  | _ => true
def Sh.solids : List Sh → Bool
  | [] => true
  | s :: l => s.solid && Sh.solids l
end

mutual
/-- A value read by a shape. What is plain data of a list's type may be a slice of the state's own: it is lent. -/
def Sh.dec : (s : Sh) → (X : Type) → Mem → AV → Env → Option ((X → s.den X) × Env)
  | .undef, _, _, _, e => some (id, e)
  | .hole t, X, mem, v, e => match t, v with
    | t, .val s x => (Ty.cast s t x).map fun y => ((fun z => ((y, z) : t.den × X)), e)
    | .list t, .slice i => match mem[i]? with
      | some (.list s l) => (Ty.cast (.list s) (.list t) l).map fun y => ((fun z => ((y, z) : List t.den × X)), e.lend i)
      | _ => none
    | .list t, .nils => some ((fun z => (([], z) : List t.den × X)), e)
    | _, _ => none
  | .elem t, X, _, v, e => match v with
    | .elem s x => (Ty.cast s t x).map fun y => ((fun z => ((y, z) : t.den × X)), e)
    | _ => none
  | .ptr i p, _, _, v, e => match v with
    | .ptr j q => cond (stepEq p q) ((e.bind i (some j)).map (id, ·)) none
    | _ => none
  | .nilp, _, _, v, e => match v with | .nilp => some (id, e) | _ => none
  | .slice i, _, _, v, e => match v with
    | .slice j => (e.bind i (some j)).map (id, ·)
    | .nils => (e.bind i none).map (id, ·)
    | _ => none
  | .nils, _, _, v, e => match v with | .nils => some (id, e) | _ => none
  | .fn f cs, X, mem, v, e => match v with
    | .fn g vs => cond (f == g) (Sh.decs cs X mem vs e) none
    | _ => none
  | .nilf, _, _, v, e => match v with | .nilf => some (id, e) | _ => none
  | .comp fs, X, mem, v, e => match v with
    | .comp vs => cond (Sh.solids fs) (Sh.decs fs X mem vs e) none
    | _ => none
  | .tup ss, X, mem, v, e => match v with
    | .tup vs => Sh.decs ss X mem vs e
    | _ => none
def Sh.decs : (l : List Sh) → (X : Type) → Mem → List AV → Env → Option ((X → Sh.dens l X) × Env)
  | [], _, _, [], e => some (id, e)
  | s :: l, X, mem, v :: vs, e => match s.dec (Sh.dens l X) mem v e with
    | some (f, e) => match Sh.decs l X mem vs e with
      | some (g, e) => some ((fun z => f (g z)), e)
      | none => none
    | none => none
  | _, _, _, _, _ => none
end

/-- A block read by a shape; it must have been bound by what stands ahead. -/
def BSh.dec (b : BSh) (X : Type) (i : Nat) (mem : Mem) (e : Env) : Option ((X → b.den X) × Env) :=
  match b with
  | .dead => some (id, e)
  | .var s => match e.b[i]? with
    | some (some (some j)) => match mem[j]? with
      | some (.var v) => cond s.solid (s.dec X mem v e) none
      | _ => none
    | _ => none
  | .list t => match e.b[i]? with
    | some (some none) => some ((fun z => (([], z) : List t.den × X)), e)
    | some (some (some j)) => match mem[j]? with
      | some (.list s l) => (Ty.cast (.list s) (.list t) l).map fun y => ((fun z => ((y, z) : List t.den × X)), e)
      | _ => none
    | _ => none
  | .iter => match e.b[i]? with
    | some (some (some j)) => match mem[j]? with
      | some (.iter s n) => some ((fun z => ((s, n, z) : ByteArray × Nat × X)), e)
      | _ => none
    | _ => none

def BSh.decs : (l : List BSh) → (X : Type) → Nat → Mem → Env → Option ((X → BSh.dens l X) × Env)
  | [], _, _, _, e => some (id, e)
  | b :: l, X, i, mem, e => match b.dec (BSh.dens l X) i mem e with
    | some (f, e) => match BSh.decs l X (i + 1) mem e with
      | some (g, e) => some ((fun z => f (g z)), e)
      | none => none
    | none => none

def isB (j : Nat) : Option (Option Nat) → Bool
  | some (some i) => i == j
  | _ => false

def nodupB : List (Option (Option Nat)) → Bool
  | [] => true
  | some (some j) :: l => !l.any (isB j) && nodupB l
  | _ :: l => nodupB l

def Env.fine (e : Env) : Bool := nodupB e.b && e.l.all fun j => !e.b.any (isB j)

/-- What is lent are lists; what is bound is there. -/
def Mem.holds (mem : Mem) (e : Env) : Bool :=
  (e.l.all fun j => match mem[j]? with
    | some (.list _ _) => true
    | _ => false) &&
  (e.b.all fun x => match x with
    | some (some j) => Nat.blt j mem.length
    | _ => true)

def ids : Nat → Nat → List (Option (Option Nat))
  | 0, _ => []
  | n + 1, i => some (some i) :: ids n (i + 1)

/-- The first blocks are what they are; the others are to be found. -/
def StSh.env (s : StSh) (p : Nat) : Env := ⟨ids p 0 ++ List.replicate (s.mem.length - p) none, []⟩

/-- A state read by a shape; the environment tells the blocks. -/
def StSh.dec (s : StSh) (p : Nat) (st : St) : Option (s.den × Env) :=
  cond (Nat.ble p s.mem.length)
    (match Sh.decs s.fr (BSh.dens s.mem Unit) st.mem st.fr (s.env p) with
     | some (f, e) => match BSh.decs s.mem Unit 0 st.mem e with
       | some (g, e) => cond (e.fine && st.mem.holds e) (some (f (g ()), e)) none
       | none => none
     | none => none)
    none

section
variable (T : TypeId → TRow) (Γ : FuncId → Option Summ) (Λ : Nat → Option LoopSum)

/-- The loop as it stands, so many rounds at most. -/
def rawK {R : Type} (cur : Nat) (body : Code) : Nat → St → (Ex → St → Option R) → Option R
  | 0, _, _ => none
  | n + 1, st, k => codeK T Γ Λ cur body st fun e st => match e with
    | .normal => rawK cur body n st k
    | e => k e st

def LoopSum.raw (cur : Nat) (body : Code) (n : Nat) : LoopSum where
  run := rawK T Γ Λ cur body n

/-- So many rounds of a round that is told as a function. -/
def iter {V W X : Type} (B : V → {S : Type} → (V → Option S) → (W → Option S) → (X → Option S) → Option S) : Nat → V → {S : Type} → (W → Option S) → (X → Option S) → Option S
  | 0, _, _, _, _ => none
  | n + 1, v, _, k, kr => B v (fun y => iter B n y k kr) k kr

/-- How a loop is told: the shape at its head, the block to which it goes out and the shape there, the shape at a return. -/
structure LSh where
  sh : StSh
  x : Nat
  out : StSh
  ret : StSh

/-- One round, between shapes. -/
def roundK {S : Type} (l : LSh) (p cur : Nat) (body : Code) (x : l.sh.den) (kn : l.sh.den → Option S) (kx : l.out.den → Option S) (kr : l.ret.den → Option S) : Option S :=
  codeK T Γ Λ cur body (l.sh.enc x) fun e st => match e with
    | .normal => (l.sh.dec p st).bind fun y => kn y.1
    | .exit id => cond (id == l.x) ((l.out.dec p st).bind fun y => kx y.1) none
    | .ret => (l.ret.dec p st).bind fun y => kr y.1

def LoopSum.of (l : LSh) (p : Nat) (L : l.sh.den → {S : Type} → (l.out.den → Option S) → (l.ret.den → Option S) → Option S) : LoopSum where
  run st k := (l.sh.dec p st).bind fun y => L y.1 (fun z => k (.exit l.x) (l.out.enc z)) (fun z => k .ret (l.ret.enc z))
end

/-! ### functions -/

mutual
def AV.ren (ρ : Nat → Nat) : AV → AV
  | .ptr i p => .ptr (ρ i) p
  | .slice i => .slice (ρ i)
  | .fn f caps => .fn f (AV.rens ρ caps)
  | .comp fs => .comp (AV.rens ρ fs)
  | .tup vs => .tup (AV.rens ρ vs)
  | v => v
def AV.rens (ρ : Nat → Nat) : List AV → List AV
  | [] => []
  | v :: l => v.ren ρ :: AV.rens ρ l
end

def Blk.ren (ρ : Nat → Nat) : Blk → Blk
  | .var v => .var (v.ren ρ)
  | b => b

def Env.rho (e : Env) (n i : Nat) : Nat := match e.b[i]? with
  | some (some (some j)) => j
  | _ => n + i

/-- What was taken along is laid back. -/
def wbs (ρ : Nat → Nat) : List (Option (Option Nat)) → List Blk → Mem → Mem
  | some (some j) :: e, b :: bs, mem => wbs ρ e bs (mem.set j (b.ren ρ))
  | _ :: e, _ :: bs, mem => wbs ρ e bs mem
  | _, _, mem => mem

def news (ρ : Nat → Nat) : List (Option (Option Nat)) → List Blk → List Blk
  | some (some _) :: e, _ :: bs => .dead :: news ρ e bs
  | _ :: e, b :: bs => b.ren ρ :: news ρ e bs
  | [], b :: bs => b.ren ρ :: news ρ [] bs
  | _, [] => []

def Ty.flat : Ty → Bool
  | .pair a b => a.flat && b.flat
  | .arr _ t => t.flat
  | .list _ => false
  | _ => true

mutual
/-- No lists: what nobody writes is not in it. -/
def Sh.flat : Sh → Bool
  | .hole t => t.flat
  | .elem _ => false
  | .fn _ cs => Sh.flats cs
  | .comp fs => Sh.flats fs
  | .tup vs => Sh.flats vs
  | _ => true
def Sh.flats : List Sh → Bool
  | [] => true
  | s :: l => s.flat && Sh.flats l
end

def BSh.flat : BSh → Bool
  | .var s => s.flat
  | .list t => t.flat
  | _ => true

def StSh.flat (s : StSh) : Bool := Sh.flats s.fr && s.mem.all BSh.flat

/-- What was taken along and may be called otherwise behind is gone. -/
def kills : List (Option (Option Nat)) → Mem → Mem
  | some (some j) :: e, mem => kills e (mem.set j .dead)
  | _ :: e, mem => kills e mem
  | [], mem => mem

def Env.cut (e : Env) (p : Nat) : Env := ⟨e.b.take p, e.l⟩

/-- A function as it is called: its arguments and what it takes along are read by a shape; what it hands back is of another shape. The first 'p' blocks are laid back. -/
def Summ.callK {R : Type} (p : Nat) (inn out : StSh) (F : inn.den → {S : Type} → (out.den → Option S) → Option S) (args : List AV) (mem : Mem) (k : AV → Mem → Option R) : Option R :=
  (inn.dec 0 ⟨args, mem⟩).bind fun y =>
    cond (Nat.ble p inn.mem.length && (y.2.l.isEmpty || out.flat)) (F y.1 fun z =>
      match (out.enc z).fr with
      | [v] => k (v.ren ((y.2.cut p).rho mem.length)) (wbs ((y.2.cut p).rho mem.length) (y.2.cut p).b (out.enc z).mem (kills (y.2.b.drop p) mem) ++ news ((y.2.cut p).rho mem.length) (y.2.cut p).b (out.enc z).mem)
      | _ => none) none

mutual
/-- A value that leads nowhere. -/
def Sh.closed : Sh → Bool
  | .undef | .hole _ | .elem _ | .nilp | .nils | .nilf => true
  | .fn _ cs => Sh.closeds cs
  | .comp fs => Sh.closeds fs
  | .tup vs => Sh.closeds vs
  | _ => false
def Sh.closeds : List Sh → Bool
  | [] => true
  | s :: l => s.closed && Sh.closeds l
end

mutual
/-- Nothing stands open in it. -/
def Sh.fixed : Sh → Bool
  | .hole .unit => true
  | .ptr _ _ | .nilp | .nilf | .nils => true
  | .comp fs => Sh.fixeds fs
  | _ => false
def Sh.fixeds : List Sh → Bool
  | [] => true
  | s :: l => s.fixed && Sh.fixeds l
end

mutual
def Sh.eqv : Sh → Sh → Bool
  | .hole .unit, .hole .unit => true
  | .ptr i p, .ptr j q => i == j && stepEq p q
  | .nilp, .nilp | .nilf, .nilf | .nils, .nils => true
  | .comp fs, .comp gs => Sh.eqvs fs gs
  | _, _ => false
def Sh.eqvs : List Sh → List Sh → Bool
  | [], [] => true
  | s :: l, t :: m => s.eqv t && Sh.eqvs l m
  | _, _ => false
end

/-- What is taken along is handed back as it was. -/
def keeps : List BSh → List BSh → Bool
  | [], _ => true
  | .var s :: l, .var t :: m => s.eqv t && keeps l m
  | _, _ => false

/-- The same, if nothing of what is taken along is written. -/
def Summ.lookK {R : Type} (inn out : StSh) (F : inn.den → {S : Type} → (out.den → Option S) → Option S) (args : List AV) (mem : Mem) (k : AV → Mem → Option R) : Option R :=
  (inn.dec 0 ⟨args, mem⟩).bind fun y =>
    cond ((y.2.l.isEmpty || out.flat) && keeps inn.mem out.mem) (F y.1 fun z =>
      match (out.enc z).fr with
      | [v] => k (v.ren (y.2.rho mem.length)) (mem ++ news (y.2.rho mem.length) y.2.b (out.enc z).mem)
      | _ => none) none

/-- The same, if nothing is taken along and plain data is handed back. -/
def Summ.pureK {R : Type} (inn out : StSh) (F : inn.den → {S : Type} → (out.den → Option S) → Option S) (args : List AV) (mem : Mem) (k : AV → Mem → Option R) : Option R :=
  cond (inn.mem.isEmpty && out.mem.isEmpty && Sh.closeds out.fr)
    ((inn.dec 0 ⟨args, []⟩).bind fun y => F y.1 fun z =>
      match (out.enc z).fr with
      | [v] => k v mem
      | _ => none) none

/-- A function's body, between shapes. -/
def bodyK {S : Type} (T : TypeId → TRow) (Γ : FuncId → Option Summ) (Λ : Nat → Option LoopSum) (fn : Func) (p : Nat) (inn out : StSh) (x : inn.den) (k : out.den → Option S) : Option S :=
  fnK T Γ Λ fn (inn.enc x).fr (inn.enc x).mem fun v m => (out.dec p ⟨[v], m⟩).bind fun y => k y.1

end Am

/- THE ABSTRACT MACHINE: what its states say of the model's. -/
namespace Am
open Go

def EncL {α : Type} (f : α → List Value → Prop) : List α → List Value → Prop
  | [], cs => cs = []
  | x :: l, cs => ∃ c d, cs = c ++ d ∧ f x c ∧ EncL f l d

/-- The cells of plain data; what slices lead to lies in blocks that nobody writes. -/
def Enc (sh : Nat → Prop) (w : World) : (t : Ty) → t.den → List Value → Prop
  | .int k, x, cs => cs = [.int k x]
  | .bool, x, cs => cs = [.bool x]
  | .str, x, cs => cs = [.string x]
  | .unit, _, cs => cs = []
  | .pair a b, x, cs => ∃ c d, cs = c ++ d ∧ Enc sh w a x.1 c ∧ Enc sh w b x.2 d
  | .arr n t, l, cs => List.length l = n ∧ EncL (Enc sh w t) l cs
  | .list t, l, cs => (cs = [.slice none 0 0] ∧ l = []) ∨
      ∃ b off cap c e cs', cs = [.slice (some ⟨b, off, none⟩) (List.length l) cap] ∧ sh b ∧ w.heap[b]? = some (.cells c e (0, 0)) ∧
        EncL (Enc sh w t) l cs' ∧ (c.toList.drop off).take cs'.length = cs'

theorem EncL.length {α : Type} {f : α → List Value → Prop} {n : Nat} (h : ∀ x c, f x c → c.length = n) : ∀ (l : List α) (cs : List Value), EncL f l cs → cs.length = l.length * n
  | [], cs, e => by simp [EncL] at e; simp [e]
  | x :: l, cs, ⟨c, d, e, hc, hd⟩ => by
    have := EncL.length h l d hd
    have := h x c hc
    subst e
    simp only [List.length_append, List.length_cons, Nat.succ_mul]
    omega

theorem Enc.length {sh : Nat → Prop} {w : World} : ∀ (t : Ty) (x : t.den) (cs : List Value), Enc sh w t x cs → cs.length = t.size
  | .int _, _, _, h => by simp [Enc] at h; simp [h, Ty.size]
  | .bool, _, _, h => by simp [Enc] at h; simp [h, Ty.size]
  | .str, _, _, h => by simp [Enc] at h; simp [h, Ty.size]
  | .unit, _, _, h => by simp [Enc] at h; simp [h, Ty.size]
  | .pair a b, x, cs, ⟨c, d, e, hc, hd⟩ => by
    have := Enc.length a _ _ hc
    have := Enc.length b _ _ hd
    subst e
    simp [Ty.size]; omega
  | .arr n t, l, cs, ⟨hn, h⟩ => by
    have := EncL.length (Enc.length t) l cs h
    simp [Ty.size, this, hn]
  | .list t, l, cs, h => by
    rcases h with ⟨h, _⟩ | ⟨_, _, _, _, _, _, h, _⟩ <;> simp [h, Ty.size]

theorem EncL.mono {α : Type} {f g : α → List Value → Prop} (h : ∀ x c, f x c → g x c) : ∀ (l : List α) (cs : List Value), EncL f l cs → EncL g l cs
  | [], _, e => e
  | _ :: l, _, ⟨c, d, e, hc, hd⟩ => ⟨c, d, e, h _ _ hc, EncL.mono h l d hd⟩

/-- Nobody has written where nobody may. -/
def ShKeep (sh : Nat → Prop) (w : World) (sh' : Nat → Prop) (w' : World) : Prop :=
  (∀ b, sh b → sh' b) ∧ (∀ b, sh b → w'.heap[b]? = w.heap[b]?)

theorem Enc.keep {sh sh' : Nat → Prop} {w w' : World} (hk : ShKeep sh w sh' w') : ∀ (t : Ty) (x : t.den) (cs : List Value), Enc sh w t x cs → Enc sh' w' t x cs
  | .int _, _, _, h => h
  | .bool, _, _, h => h
  | .str, _, _, h => h
  | .unit, _, _, h => h
  | .pair a b, x, cs, ⟨c, d, e, hc, hd⟩ => ⟨c, d, e, Enc.keep hk a _ _ hc, Enc.keep hk b _ _ hd⟩
  | .arr n t, l, cs, ⟨hn, h⟩ => ⟨hn, EncL.mono (Enc.keep hk t) l cs h⟩
  | .list t, l, cs, h => by
    rcases h with h | ⟨b, off, cap, c, e, cs', h1, h2, h3, h4, h5⟩
    · exact .inl h
    · exact .inr ⟨b, off, cap, c, e, cs', h1, hk.1 _ h2, by rw [hk.2 b h2]; exact h3, EncL.mono (Enc.keep hk t) l cs' h4, h5⟩

theorem EncL.get {α : Type} {f : α → List Value → Prop} {n : Nat} (hn : ∀ x c, f x c → c.length = n) (d : α) : ∀ (l : List α) (cs : List Value) (i : Nat), EncL f l cs → i < l.length →
    f (l.getD i d) ((cs.drop (i * n)).take n)
  | [], _, _, _, h => by simp at h
  | x :: l, cs, 0, ⟨c, e, he, hc, hd⟩, _ => by
    have := hn _ _ hc
    subst he
    simp only [Nat.zero_mul, List.drop_zero, List.getD_cons_zero]
    rw [← this, List.take_left']
    · exact hc
    · rfl
  | x :: l, cs, i + 1, ⟨c, e, he, hc, hd⟩, h => by
    have hl := hn _ _ hc
    have := EncL.get hn d l e i hd (by simpa using h)
    subst he
    rw [List.getD_cons_succ, Nat.succ_mul, Nat.add_comm, ← List.drop_drop, List.drop_left' hl]
    exact this

theorem EncL.set {α : Type} {f : α → List Value → Prop} {n : Nat} (hn : ∀ x c, f x c → c.length = n) {y : α} {c' : List Value} (hy : f y c') :
    ∀ (l : List α) (cs : List Value) (i : Nat), EncL f l cs → i < l.length → EncL f (l.set i y) (cs.take (i * n) ++ c' ++ cs.drop (i * n + n))
  | [], _, _, _, h => by simp at h
  | x :: l, cs, 0, ⟨c, e, he, hc, hd⟩, _ => by
    have hl := hn _ _ hc
    subst he
    refine ⟨c', e, ?_, hy, hd⟩
    simp only [Nat.zero_mul, List.take_zero, List.nil_append, Nat.zero_add]
    rw [List.drop_left' hl]
  | x :: l, cs, i + 1, ⟨c, e, he, hc, hd⟩, h => by
    have hl := hn _ _ hc
    have := EncL.set hn hy l e i hd (by simpa using h)
    subst he
    refine ⟨c, _, ?_, hc, this⟩
    rw [show (i + 1) * n = n + i * n from by rw [Nat.succ_mul, Nat.add_comm]]
    rw [List.take_append, List.drop_append, hl]
    rw [List.take_of_length_le (by omega), List.drop_eq_nil_of_le (by omega)]
    simp only [List.nil_append, List.append_assoc]
    congr 2
    · rw [show n + i * n - n = i * n from by omega]
    · rw [show n + i * n + n - n = i * n + n from by omega]

theorem EncL.append {α : Type} {f : α → List Value → Prop} : ∀ (l m : List α) (cs ds : List Value), EncL f l cs → EncL f m ds → EncL f (l ++ m) (cs ++ ds)
  | [], m, cs, ds, h, h' => by simp [EncL] at h; subst h; simpa using h'
  | x :: l, m, cs, ds, ⟨c, d, e, hc, hd⟩, h' => ⟨c, d ++ ds, by simp [e], hc, EncL.append l m d ds hd h'⟩

theorem EncL.take {α : Type} {f : α → List Value → Prop} {n : Nat} (hn : ∀ x c, f x c → c.length = n) : ∀ (l : List α) (cs : List Value) (k : Nat), EncL f l cs → EncL f (l.take k) (cs.take (k * n))
  | [], _, k, h => by simp [EncL] at h; subst h; simp [EncL]
  | x :: l, cs, 0, h => by simp [EncL]
  | x :: l, cs, k + 1, ⟨c, d, e, hc, hd⟩ => by
    have hl := hn _ _ hc
    subst e
    refine ⟨c, d.take (k * n), ?_, hc, EncL.take hn l d k hd⟩
    rw [show (k + 1) * n = n + k * n from by rw [Nat.succ_mul, Nat.add_comm], List.take_append, hl, List.take_of_length_le (by omega), show n + k * n - n = k * n from by omega]

theorem EncL.replicate {α : Type} {f : α → List Value → Prop} {x : α} {c : List Value} (h : f x c) : ∀ n, EncL f (List.replicate n x) (List.replicate n c).flatten
  | 0 => by simp [EncL]
  | n + 1 => by
    rw [List.replicate_succ, List.replicate_succ]
    exact ⟨c, _, rfl, h, EncL.replicate h n⟩

/-- The cells of what is there at first. -/
def Ty.zc : Ty → List Value
  | .int k => [.int k 0]
  | .bool => [.bool false]
  | .str => [.string ByteArray.empty]
  | .unit => []
  | .pair a b => a.zc ++ b.zc
  | .arr n t => (List.replicate n t.zc).flatten
  | .list _ => [.slice none 0 0]

theorem Ty.enc_dflt (sh : Nat → Prop) (w : World) : ∀ t : Ty, Enc sh w t t.dflt t.zc
  | .int _ => rfl
  | .bool => rfl
  | .str => rfl
  | .unit => rfl
  | .pair a b => ⟨_, _, rfl, Ty.enc_dflt sh w a, Ty.enc_dflt sh w b⟩
  | .arr n t => ⟨by simp [Ty.dflt], EncL.replicate (Ty.enc_dflt sh w t) n⟩
  | .list _ => .inl ⟨rfl, rfl⟩

theorem drop_take_append {α : Type} (cs : List α) (m n j : Nat) (h : j ≤ n) : ((cs.drop m).take n).drop j ++ cs.drop (m + n) = cs.drop (m + j) := by
  rw [← List.drop_drop, ← List.drop_drop]
  generalize cs.drop m = ds
  have h1 : ds.drop j = (ds.take n ++ ds.drop n).drop j := by rw [List.take_append_drop]
  rw [h1, List.drop_append]
  congr 1
  by_cases hn : n ≤ ds.length
  · rw [List.length_take, Nat.min_eq_left hn, Nat.sub_eq_zero_of_le h, List.drop_zero]
  · rw [List.drop_eq_nil_of_le (by omega)]; simp

theorem splice_in {α : Type} (cs c' : List α) (m n o : Nat) (h : o + c'.length ≤ n) :
    cs.take (m + o) ++ c' ++ cs.drop (m + o + c'.length) =
      cs.take m ++ (((cs.drop m).take n).take o ++ c' ++ ((cs.drop m).take n).drop (o + c'.length)) ++ cs.drop (m + n) := by
  rw [List.take_take, Nat.min_eq_left (by omega), List.take_add]
  simp only [List.append_assoc]
  rw [drop_take_append _ _ _ _ h, Nat.add_assoc]

theorem Ty.off_le : ∀ (t : Ty) (p : List Step), t.okp p = true → t.off p ≤ t.size
  | t, [], _ => by have h0 : t.off [] = 0 := by cases t <;> rfl
                   omega
  | .pair a b, .fld 0 :: p, h => by
    have := Ty.off_le a p h
    simp only [Ty.off, Ty.size]; omega
  | .pair a b, .fld (i + 1) :: p, h => by
    have := Ty.off_le b (.fld i :: p) h
    simp only [Ty.off, Ty.size]; omega
  | .arr n t, .idx i :: p, h => by
    simp only [Ty.okp, Bool.and_eq_true, decide_eq_true_eq] at h
    have := Ty.off_le t p h.2
    simp only [Ty.off, Ty.size]
    have : (i + 1) * t.size ≤ n * t.size := Nat.mul_le_mul_right _ h.1
    rw [Nat.succ_mul] at this
    omega

section
variable {sh : Nat → Prop} {w : World}

theorem Ty.get_nil (t : Ty) (x : t.den) : t.get [] x = some (.val t x) := by cases t <;> rfl

/-- A part of plain data, and where its cells lie. -/
theorem Ty.get_enc : ∀ (t : Ty) (x : t.den) (cs : List Value) (p : List Step) (v : AV), Enc sh w t x cs → t.get p x = some v → t.okp p = true →
    ∃ s y, v = .val s y ∧ Enc sh w s y ((cs.drop (t.off p)).take s.size)
  | t, x, cs, [], v, h, hg, _ => by
    rw [Ty.get_nil] at hg
    cases hg
    have := Enc.length _ _ _ h
    refine ⟨t, x, rfl, ?_⟩
    have h0 : t.off [] = 0 := by cases t <;> rfl
    rw [h0, List.drop_zero, List.take_of_length_le (by omega)]
    exact h
  | .pair a b, x, cs, .fld 0 :: p, v, ⟨c, d, e, hc, hd⟩, hg, ho => by
    simp only [Ty.get] at hg
    simp only [Ty.okp] at ho
    obtain ⟨s, y, rfl, hy⟩ := Ty.get_enc a x.1 c p v hc hg ho
    refine ⟨s, y, rfl, ?_⟩
    have hl := Enc.length _ _ _ hy
    subst e
    simp only [Ty.off]
    rw [List.length_take, List.length_drop] at hl
    rw [List.drop_append, List.take_append]
    by_cases h0 : s.size = 0
    · rw [h0] at hy ⊢
      simpa using hy
    · rw [show a.off p - c.length = 0 from by omega]
      rw [show s.size - (c.drop (a.off p)).length = 0 from by rw [List.length_drop]; omega]
      simpa using hy
  | .pair a b, x, cs, .fld (i + 1) :: p, v, ⟨c, d, e, hc, hd⟩, hg, ho => by
    simp only [Ty.get] at hg
    simp only [Ty.okp] at ho
    obtain ⟨s, y, rfl, hy⟩ := Ty.get_enc b x.2 d (.fld i :: p) v hd hg ho
    refine ⟨s, y, rfl, ?_⟩
    have hl := Enc.length _ _ _ hc
    subst e
    simp only [Ty.off]
    rw [← List.drop_drop, List.drop_left' hl]
    exact hy
  | .arr n t, l, cs, .idx i :: p, v, ⟨hn, h⟩, hg, ho => by
    simp only [Ty.get] at hg
    simp only [Ty.okp, Bool.and_eq_true, decide_eq_true_eq] at ho
    have hi : i < List.length l := by omega
    have h1 := EncL.get (Enc.length t) t.dflt l cs i h hi
    obtain ⟨s, y, rfl, hy⟩ := Ty.get_enc t _ _ p v h1 hg ho.2
    refine ⟨s, y, rfl, ?_⟩
    have hl := Enc.length _ _ _ hy
    simp only [Ty.off]
    rw [List.drop_take, List.drop_drop, List.take_take] at hy
    rw [List.length_take, List.length_drop, List.length_take, List.length_drop] at hl
    by_cases h0 : s.size = 0
    · rw [h0] at hy ⊢
      simpa using hy
    · rw [Nat.min_eq_left (by omega)] at hy
      exact hy

theorem Ty.cast_spec {s t : Ty} {x : s.den} {y : t.den} (h : Ty.cast s t x = some y) : ∃ e : s = t, y = e ▸ x := by
  unfold Ty.cast at h
  split at h
  · rename_i e; exact ⟨e, by simpa using h.symm⟩
  · cases h

/-- Plain data with another part. -/
theorem Ty.set_enc : ∀ (t : Ty) (x : t.den) (cs : List Value) (p : List Step) (s : Ty) (z : s.den) (c : List Value) (y : t.den), Enc sh w t x cs → Enc sh w s z c →
    t.set p (.val s z) x = some y → t.okp p = true → Enc sh w t y (cs.take (t.off p) ++ c ++ cs.drop (t.off p + c.length))
  | t, x, cs, [], s, z, c, y, h, hz, hs, _ => by
    have h0 : t.off [] = 0 := by cases t <;> rfl
    have hs' : Ty.cast s t z = some y := by cases t <;> exact hs
    obtain ⟨rfl, rfl⟩ := Ty.cast_spec hs'
    have h1 := Enc.length _ _ _ h
    have h2 := Enc.length _ _ _ hz
    rw [h0, List.take_zero, Nat.zero_add, List.drop_eq_nil_of_le (by omega)]
    simpa using hz
  | .pair a b, x, cs, .fld 0 :: p, s, z, c', y, ⟨c, d, e, hc, hd⟩, hz, hs, ho => by
    simp only [Ty.set, Option.map_eq_some_iff] at hs
    obtain ⟨y1, hy1, rfl⟩ := hs
    simp only [Ty.okp] at ho
    have ih := Ty.set_enc a x.1 c p s z c' y1 hc hz hy1 ho
    have hl := Enc.length _ _ _ ih
    have hl2 := Enc.length _ _ _ hc
    refine ⟨_, d, ?_, ih, hd⟩
    subst e
    simp only [Ty.off]
    simp only [List.length_append, List.length_take, List.length_drop] at hl
    rw [List.take_append, List.drop_append]
    have hle : a.off p ≤ c.length := by have := Ty.off_le a p ho; omega
    have hle2 : a.off p + c'.length ≤ c.length := by omega
    rw [show a.off p - c.length = 0 from by omega, show a.off p + c'.length - c.length = 0 from by omega]
    simp
  | .pair a b, x, cs, .fld (i + 1) :: p, s, z, c', y, ⟨c, d, e, hc, hd⟩, hz, hs, ho => by
    simp only [Ty.set, Option.map_eq_some_iff] at hs
    obtain ⟨y1, hy1, rfl⟩ := hs
    simp only [Ty.okp] at ho
    have ih := Ty.set_enc b x.2 d (.fld i :: p) s z c' y1 hd hz hy1 ho
    have hl2 := Enc.length _ _ _ hc
    refine ⟨c, _, ?_, hc, ih⟩
    subst e
    simp only [Ty.off]
    rw [List.take_append, List.drop_append, hl2, List.take_of_length_le (by omega), List.drop_eq_nil_of_le (by omega)]
    rw [show a.size + b.off (.fld i :: p) - a.size = b.off (.fld i :: p) from by omega]
    rw [show a.size + b.off (.fld i :: p) + c'.length - a.size = b.off (.fld i :: p) + c'.length from by omega]
    simp
  | .arr n t, l, cs, .idx i :: p, s, z, c', y, ⟨hn, h⟩, hz, hs, ho => by
    simp only [Ty.set, Option.map_eq_some_iff] at hs
    obtain ⟨y1, hy1, rfl⟩ := hs
    simp only [Ty.okp, Bool.and_eq_true, decide_eq_true_eq] at ho
    have hi : i < List.length l := by omega
    have h1 := EncL.get (Enc.length t) t.dflt l cs i h hi
    have ih := Ty.set_enc t _ _ p s z c' y1 h1 hz hy1 ho.2
    have h2 := EncL.set (Enc.length t) ih l cs i h hi
    refine ⟨by simpa using hn, ?_⟩
    have hL := EncL.length (Enc.length t) l cs h
    have hl := Enc.length _ _ _ ih
    have hl1 := Enc.length _ _ _ h1
    have hle := Ty.off_le t p ho.2
    simp only [List.length_append, List.length_take, List.length_drop] at hl hl1
    rw [Ty.off, splice_in cs c' (i * t.size) t.size (t.off p) (by omega)]
    exact h2
end
end Am

/- THE ABSTRACT MACHINE: values, blocks, memories and states, as relations to the model's. -/
namespace Am
open Go

/-- Which block of the heap each block is, and how many cells it has. -/
abbrev Mu := List (Option (Nat × Nat))

def PtrR (μ : Mu) (mem : Mem) (id : Nat) (p : List Step) (v : Value) : Prop :=
  match mem[id]? with
  | none => False
  | some .dead => ∃ a, v = .pointer (some a)
  | some b => ∃ g n, μ[id]? = some (some (g, n)) ∧ b.okp p = true ∧ v = .pointer (some ⟨g, b.off p, none⟩)

def SlR (μ : Mu) (mem : Mem) (id : Nat) (v : Value) : Prop :=
  match mem[id]? with
  | some .dead => ∃ a l c, v = .slice a l c
  | some (.list t l) => (μ[id]? = some none ∧ v = .slice none 0 0) ∨
      ∃ g n cap, μ[id]? = some (some (g, n)) ∧ v = .slice (some ⟨g, 0, none⟩) l.length cap ∧ l.length ≤ cap ∧ cap * t.size ≤ n
  | _ => False

section
variable (μ : Mu) (mem : Mem) (sh : Nat → Prop) (w : World)

mutual
/-- The cells of a value. -/
def RC : AV → List Value → Prop
  | .val t x, cs => Enc sh w t x cs
  | .ptr id p, cs => ∃ v, cs = [v] ∧ PtrR μ mem id p v
  | .nilp, cs => cs = [.pointer none]
  | .slice id, cs => ∃ v, cs = [v] ∧ SlR μ mem id v
  | .nils, cs => cs = [.slice none 0 0]
  | .fn f caps, cs => ∃ vs, cs = [.func (.func f) #[] vs.toArray] ∧ RVs caps vs
  | .nilf, cs => cs = [.nilFunc]
  | .comp fs, cs => RCs fs cs
  | .tup vs, cs => ∃ l, cs = [.tuple l.toArray] ∧ RVs vs l
  | .elem t x, cs => ∃ b off c e cs', cs = [.pointer (some ⟨b, off, none⟩)] ∧ sh b ∧ w.heap[b]? = some (.cells c e (0, 0)) ∧
      Enc sh w t x cs' ∧ (c.toList.drop off).take cs'.length = cs'
  | .undef, cs => ∃ v, cs = [v]
def RCs : List AV → List Value → Prop
  | [], cs => cs = []
  | a :: l, cs => ∃ c d, cs = c ++ d ∧ RC a c ∧ RCs l d
def RVs : List AV → List Value → Prop
  | [], vs => vs = []
  | a :: l, vs => ∃ v rest cs, vs = v :: rest ∧ RC a cs ∧ (if a.agg then v = .agg cs.toArray else cs = [v]) ∧ RVs l rest
end

/-- A value. -/
def RV (a : AV) (v : Value) : Prop := ∃ cs, RC μ mem sh w a cs ∧ (if a.agg then v = .agg cs.toArray else cs = [v])

end

theorem RVs_cons {μ : Mu} {mem : Mem} {sh : Nat → Prop} {w : World} {a : AV} {l : List AV} {v : Value} {vs : List Value} (h : RV μ mem sh w a v) (h' : RVs μ mem sh w l vs) :
    RVs μ mem sh w (a :: l) (v :: vs) := by
  obtain ⟨cs, hc, hv⟩ := h
  exact ⟨v, vs, cs, rfl, hc, hv, h'⟩

theorem RVs_inv {μ : Mu} {mem : Mem} {sh : Nat → Prop} {w : World} {a : AV} {l : List AV} {vs : List Value} (h : RVs μ mem sh w (a :: l) vs) :
    ∃ v rest, vs = v :: rest ∧ RV μ mem sh w a v ∧ RVs μ mem sh w l rest := by
  obtain ⟨v, rest, cs, e, hc, hv, h'⟩ := h
  exact ⟨v, rest, e, ⟨cs, hc, hv⟩, h'⟩

theorem RV_undef {μ : Mu} {mem : Mem} {sh : Nat → Prop} {w : World} (v : Value) : RV μ mem sh w .undef v := ⟨[v], ⟨v, rfl⟩, rfl⟩

/-! ### layouts -/

theorem Ty.atom_okp {t : Ty} (h : t.agg = false) : ∀ p, t.okp p = p.isEmpty ∧ t.off p = 0 ∧ t.size = 1
  | [] => by cases t <;> simp_all [Ty.agg, Ty.okp, Ty.off, Ty.size]
  | s :: p => by cases t <;> cases s <;> simp_all [Ty.agg, Ty.okp, Ty.off, Ty.size]

theorem AV.atom_okp {v : AV} (h : v.atom = true) : (∀ p, v.okp p = p.isEmpty ∧ v.off p = 0) ∧ v.size = 1 ∧ v.agg = false := by
  refine ⟨fun p => ?_, ?_, ?_⟩
  · cases v <;> simp [AV.atom] at h <;> (try (cases p <;> simp [AV.okp, AV.off]; done))
    rename_i t x
    cases p with
    | nil => simp [AV.okp, AV.off, (Ty.atom_okp h []).2.1]
    | cons s p => simp [AV.okp, AV.off, (Ty.atom_okp h (s :: p)).1, (Ty.atom_okp h (s :: p)).2.1]
  · cases v <;> simp [AV.atom] at h <;> simp [AV.size]
    exact (Ty.atom_okp h []).2.2
  · cases v <;> simp [AV.atom] at h <;> simp [AV.agg, h]

def AV.same (u v : AV) : Prop := u.size = v.size ∧ u.agg = v.agg ∧ ∀ p, u.okp p = v.okp p ∧ u.off p = v.off p

theorem AV.same_atoms {u v : AV} (hu : u.atom = true) (hv : v.atom = true) : u.same v := by
  obtain ⟨h1, h2, h3⟩ := AV.atom_okp hu
  obtain ⟨g1, g2, g3⟩ := AV.atom_okp hv
  exact ⟨h2.trans g2.symm, h3.trans g3.symm, fun p => ⟨(h1 p).1.trans (g1 p).1.symm, (h1 p).2.trans (g1 p).2.symm⟩⟩

mutual
theorem AV.lay_same : ∀ (u v : AV), u.lay v = true → u.same v
  | .comp us, v, h => by
    cases v <;> simp [AV.lay, AV.atom] at h
    rename_i vs
    have ih := AV.lays_same us vs h
    refine ⟨by simp [AV.size, ih.1], rfl, fun p => ?_⟩
    cases p with
    | nil => simp [AV.okp, AV.off]
    | cons s p => cases s <;> simp [AV.okp, AV.off, (ih.2 _ p).1, (ih.2 _ p).2]
  | .val t x, v, h => by
    cases v with
    | val s y =>
      simp only [AV.lay, Bool.or_eq_true, decide_eq_true_eq, Bool.and_eq_true] at h
      rcases h with rfl | h
      · exact ⟨rfl, rfl, fun p => by cases p <;> simp [AV.okp, AV.off]⟩
      · exact AV.same_atoms (by simpa [AV.atom] using h.1) (by simpa [AV.atom] using h.2)
    | _ => simp only [AV.lay, Bool.and_eq_true] at h; exact AV.same_atoms h.1 h.2
  | .ptr _ _, v, h => by cases v <;> simp only [AV.lay, Bool.and_eq_true] at h <;> exact AV.same_atoms h.1 h.2
  | .nilp, v, h => by cases v <;> simp only [AV.lay, Bool.and_eq_true] at h <;> exact AV.same_atoms h.1 h.2
  | .slice _, v, h => by cases v <;> simp only [AV.lay, Bool.and_eq_true] at h <;> exact AV.same_atoms h.1 h.2
  | .nils, v, h => by cases v <;> simp only [AV.lay, Bool.and_eq_true] at h <;> exact AV.same_atoms h.1 h.2
  | .fn _ _, v, h => by cases v <;> simp only [AV.lay, Bool.and_eq_true] at h <;> exact AV.same_atoms h.1 h.2
  | .nilf, v, h => by cases v <;> simp only [AV.lay, Bool.and_eq_true] at h <;> exact AV.same_atoms h.1 h.2
  | .tup _, v, h => by cases v <;> simp only [AV.lay, Bool.and_eq_true] at h <;> exact AV.same_atoms h.1 h.2
  | .elem _ _, v, h => by cases v <;> simp only [AV.lay, Bool.and_eq_true] at h <;> exact AV.same_atoms h.1 h.2
  | .undef, v, h => by cases v <;> simp only [AV.lay, Bool.and_eq_true] at h <;> exact AV.same_atoms h.1 h.2
theorem AV.lays_same : ∀ (us vs : List AV), AV.lays us vs = true → AV.sizes us = AV.sizes vs ∧ ∀ i p, AV.okps us i p = AV.okps vs i p ∧ AV.offs us i p = AV.offs vs i p
  | [], vs, h => by cases vs <;> simp [AV.lays] at h; exact ⟨rfl, fun _ _ => ⟨rfl, rfl⟩⟩
  | u :: us, vs, h => by
    cases vs with
    | nil => simp [AV.lays] at h
    | cons v vs =>
      simp only [AV.lays, Bool.and_eq_true] at h
      have h1 := AV.lay_same u v h.1
      have h2 := AV.lays_same us vs h.2
      refine ⟨by simp [AV.sizes, h1.1, h2.1], fun i p => ?_⟩
      cases i with
      | zero => simp [AV.okps, AV.offs, (h1.2.2 p).1, (h1.2.2 p).2]
      | succ i => simp [AV.okps, AV.offs, (h2.2 i p).1, (h2.2 i p).2, h1.1]
end

/-- Blocks that may stand for one another. -/
def BLay : Blk → Blk → Prop
  | .var u, .var v => u.same v
  | .list t l, .list s m => t = s ∧ l.length = m.length
  | .iter .., .iter .. => True
  | .dead, .dead => True
  | _, _ => False

theorem BLay.refl : ∀ b, BLay b b
  | .var _ => ⟨rfl, rfl, fun _ => ⟨rfl, rfl⟩⟩
  | .list _ _ => ⟨rfl, rfl⟩
  | .iter .. => trivial
  | .dead => trivial

theorem BLay.trans {a b c : Blk} (h : BLay a b) (h' : BLay b c) : BLay a c := by
  cases a <;> cases b <;> simp [BLay] at h <;> cases c <;> simp [BLay] at h' <;> simp [BLay]
  · exact ⟨h.1.trans h'.1, h.2.1.trans h'.2.1, fun p => ⟨(h.2.2 p).1.trans (h'.2.2 p).1, (h.2.2 p).2.trans (h'.2.2 p).2⟩⟩
  · exact ⟨h.1.trans h'.1, h.2.trans h'.2⟩

theorem BLay.okp {a b : Blk} (h : BLay a b) (p : List Step) : a.okp p = b.okp p ∧ a.off p = b.off p := by
  cases a <;> cases b <;> simp [BLay] at h
  · exact ⟨(h.2.2 p).1, (h.2.2 p).2⟩
  · obtain ⟨rfl, hl⟩ := h
    rcases p with _ | ⟨_ | _, p⟩ <;> simp [Blk.okp, Blk.off, hl]
  · rcases p with _ | ⟨_ | _, p⟩ <;> simp [Blk.okp, Blk.off]
  · rcases p with _ | ⟨_ | _, p⟩ <;> simp [Blk.okp, Blk.off]

/-- A memory that has gone on. -/
def Ext (μ : Mu) (mem : Mem) (μ' : Mu) (mem' : Mem) : Prop :=
  ∀ (id : Nat) (b : Blk), mem[id]? = some b → ∃ b', mem'[id]? = some b' ∧ (b' = .dead ∨ (μ'[id]? = μ[id]? ∧ BLay b b'))

theorem Ext.refl (μ : Mu) (mem : Mem) : Ext μ mem μ mem := fun _ b h => ⟨b, h, .inr ⟨rfl, BLay.refl b⟩⟩

theorem Ext.trans {μ μ' μ'' : Mu} {mem mem' mem'' : Mem} (h : Ext μ mem μ' mem') (h' : Ext μ' mem' μ'' mem'') : Ext μ mem μ'' mem'' := by
  intro id b hb
  obtain ⟨b', hb', h1⟩ := h id b hb
  obtain ⟨b'', hb'', h2⟩ := h' id b' hb'
  refine ⟨b'', hb'', ?_⟩
  rcases h2 with h2 | ⟨h2, h3⟩
  · exact .inl h2
  · rcases h1 with rfl | ⟨h1, h4⟩
    · cases b'' <;> simp [BLay] at h3; exact .inl rfl
    · exact .inr ⟨h2.trans h1, h4.trans h3⟩

theorem PtrR.pointer {μ : Mu} {mem : Mem} {id : Nat} {p : List Step} {v : Value} (hp : PtrR μ mem id p v) : ∃ a, v = .pointer (some a) := by
  unfold PtrR at hp
  split at hp
  · exact hp.elim
  · exact hp
  · obtain ⟨_, _, _, _, h⟩ := hp; exact ⟨_, h⟩

theorem SlR.slice {μ : Mu} {mem : Mem} {id : Nat} {v : Value} (hp : SlR μ mem id v) : ∃ a l c, v = .slice a l c := by
  unfold SlR at hp
  split at hp
  · exact hp
  · rcases hp with ⟨_, h⟩ | ⟨_, _, _, _, h, _⟩ <;> exact ⟨_, _, _, h⟩
  · exact hp.elim

theorem PtrR.ext {μ μ' : Mu} {mem mem' : Mem} (h : Ext μ mem μ' mem') {id : Nat} {p : List Step} {v : Value} (hp : PtrR μ mem id p v) : PtrR μ' mem' id p v := by
  have hpt := hp.pointer
  unfold PtrR at hp ⊢
  cases hb : mem[id]? with
  | none => simp [hb] at hp
  | some b =>
    obtain ⟨b', hb', h1⟩ := h id b hb
    rw [hb']
    rcases h1 with rfl | ⟨h1, h2⟩
    · exact hpt
    · rw [hb] at hp
      have ho := h2.okp p
      cases b <;> cases b' <;> simp [BLay] at h2 <;> simp only at hp ⊢ <;> try exact hp
      all_goals
        obtain ⟨g, n, e1, e2, e3⟩ := hp
        exact ⟨g, n, h1.trans e1, ho.1 ▸ e2, by rw [← ho.2]; exact e3⟩

theorem SlR.ext {μ μ' : Mu} {mem mem' : Mem} (h : Ext μ mem μ' mem') {id : Nat} {v : Value} (hp : SlR μ mem id v) : SlR μ' mem' id v := by
  have hsl := hp.slice
  unfold SlR at hp ⊢
  cases hb : mem[id]? with
  | none => simp [hb] at hp
  | some b =>
    obtain ⟨b', hb', h1⟩ := h id b hb
    rw [hb']
    rcases h1 with rfl | ⟨h1, h2⟩
    · exact hsl
    · rw [hb] at hp
      cases b <;> cases b' <;> simp [BLay] at h2 <;> simp only at hp ⊢ <;> try exact hp
      rename_i t l s m
      obtain ⟨rfl, hl⟩ := h2
      rw [h1, ← hl]
      exact hp

section
variable {μ μ' : Mu} {mem mem' : Mem} {sh sh' : Nat → Prop} {w w' : World}

mutual
theorem RC.ext (he : Ext μ mem μ' mem') (hk : ShKeep sh w sh' w') : ∀ (a : AV) (cs : List Value), RC μ mem sh w a cs → RC μ' mem' sh' w' a cs
  | .val t x, cs, h => Enc.keep hk t x cs h
  | .ptr id p, cs, ⟨v, e, h⟩ => ⟨v, e, h.ext he⟩
  | .nilp, cs, h => h
  | .slice id, cs, ⟨v, e, h⟩ => ⟨v, e, h.ext he⟩
  | .nils, cs, h => h
  | .fn f caps, cs, ⟨vs, e, h⟩ => ⟨vs, e, RVs.ext he hk caps vs h⟩
  | .nilf, cs, h => h
  | .comp fs, cs, h => RCs.ext he hk fs cs h
  | .tup vs, cs, ⟨l, e, h⟩ => ⟨l, e, RVs.ext he hk vs l h⟩
  | .elem t x, cs, ⟨b, off, c, e, cs', h1, h2, h3, h4, h5⟩ => ⟨b, off, c, e, cs', h1, hk.1 _ h2, by rw [hk.2 b h2]; exact h3, Enc.keep hk t x cs' h4, h5⟩
  | .undef, cs, h => h
theorem RCs.ext (he : Ext μ mem μ' mem') (hk : ShKeep sh w sh' w') : ∀ (l : List AV) (cs : List Value), RCs μ mem sh w l cs → RCs μ' mem' sh' w' l cs
  | [], cs, h => h
  | a :: l, cs, ⟨c, d, e, h1, h2⟩ => ⟨c, d, e, RC.ext he hk a c h1, RCs.ext he hk l d h2⟩
theorem RVs.ext (he : Ext μ mem μ' mem') (hk : ShKeep sh w sh' w') : ∀ (l : List AV) (vs : List Value), RVs μ mem sh w l vs → RVs μ' mem' sh' w' l vs
  | [], vs, h => h
  | a :: l, vs, ⟨v, rest, cs, e, h1, h2, h3⟩ => ⟨v, rest, cs, e, RC.ext he hk a cs h1, h2, RVs.ext he hk l rest h3⟩
end

theorem RV.ext (he : Ext μ mem μ' mem') (hk : ShKeep sh w sh' w') {a : AV} {v : Value} (h : RV μ mem sh w a v) : RV μ' mem' sh' w' a v := by
  obtain ⟨cs, h1, h2⟩ := h
  exact ⟨cs, RC.ext he hk a cs h1, h2⟩

mutual
theorem RC.length : ∀ (a : AV) (cs : List Value), RC μ mem sh w a cs → cs.length = a.size
  | .val t x, cs, h => Enc.length t x cs h
  | .ptr id p, cs, ⟨v, e, h⟩ => by simp [e, AV.size]
  | .nilp, cs, h => by simp [RC] at h; simp [h, AV.size]
  | .slice id, cs, ⟨v, e, h⟩ => by simp [e, AV.size]
  | .nils, cs, h => by simp [RC] at h; simp [h, AV.size]
  | .fn f caps, cs, ⟨vs, e, h⟩ => by simp [e, AV.size]
  | .nilf, cs, h => by simp [RC] at h; simp [h, AV.size]
  | .comp fs, cs, h => by have := RCs.length fs cs h; simp [AV.size, this]
  | .tup vs, cs, ⟨l, e, h⟩ => by simp [e, AV.size]
  | .elem t x, cs, ⟨b, off, c, e, cs', h1, _⟩ => by simp [h1, AV.size]
  | .undef, cs, ⟨v, e⟩ => by simp [e, AV.size]
theorem RCs.length : ∀ (l : List AV) (cs : List Value), RCs μ mem sh w l cs → cs.length = AV.sizes l
  | [], cs, h => by simp [RCs] at h; simp [h, AV.sizes]
  | a :: l, cs, ⟨c, d, e, h1, h2⟩ => by
    have := RC.length a c h1
    have := RCs.length l d h2
    subst e; simp [AV.sizes]; omega
end

/-- A block. -/
def BR (μ : Mu) (mem : Mem) (sh : Nat → Prop) (w : World) (id : Nat) : Blk → Prop
  | .dead => True
  | .var v => ∃ g n c e, μ[id]? = some (some (g, n)) ∧ w.heap[g]? = some (.cells c e (0, 0)) ∧ c.size = n ∧ RC μ mem sh w v c.toList ∧ ¬ sh g
  | .list t l => (μ[id]? = some none ∧ l = []) ∨
      ∃ g n c e cs, μ[id]? = some (some (g, n)) ∧ w.heap[g]? = some (.cells c e (0, 0)) ∧ c.size = n ∧ EncL (Enc sh w t) l cs ∧ c.toList.take cs.length = cs ∧ ¬ sh g
  | .iter s pos => ∃ g n, μ[id]? = some (some (g, n)) ∧ w.heap[g]? = some (.stringIter s pos) ∧ ¬ sh g

structure MemR (μ : Mu) (mem : Mem) (sh : Nat → Prop) (w : World) : Prop where
  len : μ.length = mem.length
  blk : ∀ (id : Nat) (b : Blk), mem[id]? = some b → BR μ mem sh w id b
  inj : ∀ (i j g n m : Nat) (b c : Blk), mem[i]? = some b → mem[j]? = some c → b ≠ .dead → c ≠ .dead → μ[i]? = some (some (g, n)) → μ[j]? = some (some (g, m)) → i = j
  shl : ∀ g, sh g → g < w.heap.size
  mul : ∀ (i g n : Nat), μ[i]? = some (some (g, n)) → g < w.heap.size

/-- What stands outside is as it was. -/
def SameOs (w w' : World) : Prop := w'.os = w.os ∧ w'.output = w.output

theorem SameOs.rfl' (w : World) : SameOs w w := ⟨rfl, rfl⟩
theorem SameOs.trans {a b c : World} (h : SameOs a b) (h' : SameOs b c) : SameOs a c := ⟨h'.1.trans h.1, h'.2.trans h.2⟩

/-- What a step may do to the world: it writes no block but its own ones. -/
structure Mv (μ : Mu) (mem : Mem) (sh : Nat → Prop) (w : World) (μ' : Mu) (mem' : Mem) (sh' : Nat → Prop) (w' : World) : Prop where
  ext : Ext μ mem μ' mem'
  keep : ShKeep sh w sh' w'
  size : w.heap.size ≤ w'.heap.size
  old : ∀ g, g < w.heap.size → (∀ (i n : Nat), μ[i]? ≠ some (some (g, n))) → w'.heap[g]? = w.heap[g]?
  shn : ∀ g, sh' g → sh g ∨ (∃ (i n : Nat), μ[i]? = some (some (g, n))) ∨ w.heap.size ≤ g
  mun : ∀ (i g n : Nat), μ'[i]? = some (some (g, n)) → (∃ (j m : Nat), μ[j]? = some (some (g, m))) ∨ w.heap.size ≤ g
  os : SameOs w w'

theorem Mv.refl (μ : Mu) (mem : Mem) (sh : Nat → Prop) (w : World) : Mv μ mem sh w μ mem sh w :=
  ⟨Ext.refl _ _, ⟨fun _ h => h, fun _ _ => rfl⟩, Nat.le_refl _, fun _ _ _ => rfl, fun _ h => .inl h, fun i _ n h => .inl ⟨i, n, h⟩, ⟨rfl, rfl⟩⟩

theorem Mv.trans {μ₁ μ₂ μ₃ : Mu} {m₁ m₂ m₃ : Mem} {s₁ s₂ s₃ : Nat → Prop} {w₁ w₂ w₃ : World} (h : Mv μ₁ m₁ s₁ w₁ μ₂ m₂ s₂ w₂) (h' : Mv μ₂ m₂ s₂ w₂ μ₃ m₃ s₃ w₃) :
    Mv μ₁ m₁ s₁ w₁ μ₃ m₃ s₃ w₃ := by
  refine ⟨h.ext.trans h'.ext, ⟨fun b hb => h'.keep.1 _ (h.keep.1 _ hb), fun b hb => (h'.keep.2 b (h.keep.1 b hb)).trans (h.keep.2 b hb)⟩, Nat.le_trans h.size h'.size, ?_, ?_, ?_, h.os.trans h'.os⟩
  · intro g hg hn
    have h1 := h.old g hg hn
    rw [h'.old g (Nat.lt_of_lt_of_le hg h.size) ?_, h1]
    intro i n hi
    rcases h.mun i g n hi with ⟨j, m, hj⟩ | hge
    · exact hn j m hj
    · omega
  · intro g hg
    rcases h'.shn g hg with h1 | ⟨i, n, h1⟩ | h1
    · exact h.shn g h1
    · rcases h.mun i g n h1 with h2 | h2
      · exact .inr (.inl h2)
      · exact .inr (.inr h2)
    · exact .inr (.inr (Nat.le_trans h.size h1))
  · intro i g n hi
    rcases h'.mun i g n hi with ⟨j, m, h1⟩ | h1
    · exact h.mun j g m h1
    · exact .inr (Nat.le_trans h.size h1)

end
end Am

/- THE ABSTRACT MACHINE: reading and writing a part; memory at work. -/
namespace Am
open Go

section
variable {μ μ' : Mu} {mem mem' : Mem} {sh sh' : Nat → Prop} {w w' : World}

theorem AV.get_nil (v : AV) : v.get [] = some v := by
  cases v <;> simp [AV.get, Ty.get_nil]

theorem AV.off_nil (v : AV) : v.off [] = 0 := by
  cases v <;> simp [AV.off]
  rename_i t x; cases t <;> rfl

mutual
theorem RC.get : ∀ (a : AV) (cs : List Value) (p : List Step) (v : AV), RC μ mem sh w a cs → a.get p = some v → a.okp p = true → RC μ mem sh w v ((cs.drop (a.off p)).take v.size)
  | a, cs, [], v, h, hg, _ => by
    rw [AV.get_nil] at hg
    cases hg
    have := RC.length _ _ h
    rw [AV.off_nil, List.drop_zero, List.take_of_length_le (by omega)]
    exact h
  | .val t x, cs, s :: p, v, h, hg, ho => by
    obtain ⟨s', y, rfl, hy⟩ := Ty.get_enc t x cs (s :: p) v h (by simpa [AV.get] using hg) (by simpa [AV.okp] using ho)
    exact hy
  | .comp fs, cs, .fld i :: p, v, h, hg, ho => RCs.get fs cs i p v h (by simpa [AV.get] using hg) (by simpa [AV.okp] using ho)
  | .comp fs, cs, .idx i :: p, v, h, hg, ho => RCs.get fs cs i p v h (by simpa [AV.get] using hg) (by simpa [AV.okp] using ho)
  | .ptr _ _, _, _ :: _, _, _, _, ho | .nilp, _, _ :: _, _, _, _, ho | .slice _, _, _ :: _, _, _, _, ho | .nils, _, _ :: _, _, _, _, ho | .fn _ _, _, _ :: _, _, _, _, ho
  | .nilf, _, _ :: _, _, _, _, ho | .tup _, _, _ :: _, _, _, _, ho | .elem _ _, _, _ :: _, _, _, _, ho | .undef, _, _ :: _, _, _, _, ho => by simp [AV.okp] at ho
theorem RCs.get : ∀ (l : List AV) (cs : List Value) (i : Nat) (p : List Step) (v : AV), RCs μ mem sh w l cs → AV.gets l i p = some v → AV.okps l i p = true →
    RC μ mem sh w v ((cs.drop (AV.offs l i p)).take v.size)
  | [], _, _, _, _, _, hg, _ => by simp [AV.gets] at hg
  | a :: l, cs, 0, p, v, ⟨c, d, e, h1, h2⟩, hg, ho => by
    simp only [AV.gets] at hg
    simp only [AV.okps] at ho
    have ih := RC.get a c p v h1 hg ho
    have hl := RC.length _ _ ih
    subst e
    simp only [AV.offs]
    rw [List.length_take, List.length_drop] at hl
    rw [List.drop_append, List.take_append]
    by_cases h0 : v.size = 0
    · rw [h0] at ih ⊢
      simpa using ih
    · rw [show a.off p - c.length = 0 from by omega]
      rw [show v.size - (c.drop (a.off p)).length = 0 from by rw [List.length_drop]; omega]
      simpa using ih
  | a :: l, cs, i + 1, p, v, ⟨c, d, e, h1, h2⟩, hg, ho => by
    simp only [AV.gets] at hg
    simp only [AV.okps] at ho
    have ih := RCs.get l d i p v h2 hg ho
    have hl := RC.length _ _ h1
    subst e
    simp only [AV.offs]
    rw [← List.drop_drop, List.drop_left' hl]
    exact ih
end

theorem Ty.set_val : ∀ (t : Ty) (p : List Step) (v : AV) (x : t.den) (y : t.den), t.set p v x = some y → ∃ s z, v = .val s z
  | t, [], v, x, y, h => by cases v <;> first | exact ⟨_, _, rfl⟩ | (cases t <;> simp [Ty.set] at h)
  | .pair a b, .fld 0 :: p, v, x, y, h => by
    simp only [Ty.set, Option.map_eq_some_iff] at h
    obtain ⟨z, hz, _⟩ := h
    exact Ty.set_val a p v x.1 z hz
  | .pair a b, .fld (i + 1) :: p, v, x, y, h => by
    simp only [Ty.set, Option.map_eq_some_iff] at h
    obtain ⟨z, hz, _⟩ := h
    exact Ty.set_val b (.fld i :: p) v x.2 z hz
  | .arr n t, .idx i :: p, v, x, y, h => by
    simp only [Ty.set, Option.map_eq_some_iff] at h
    obtain ⟨z, hz, _⟩ := h
    exact Ty.set_val t p v _ z hz
  | .int _, _ :: _, _, _, _, h | .bool, _ :: _, _, _, _, h | .str, _ :: _, _, _, _, h | .unit, _ :: _, _, _, _, h | .list _, _ :: _, _, _, _, h => by simp [Ty.set] at h
  | .pair _ _, .idx _ :: _, _, _, _, h => by simp [Ty.set] at h
  | .arr _ _, .fld _ :: _, _, _, _, h => by simp [Ty.set] at h

mutual
theorem AV.off_le : ∀ (a : AV) (p : List Step), a.okp p = true → a.off p ≤ a.size
  | a, [], _ => by rw [AV.off_nil]; omega
  | .val t x, s :: p, h => by
    have := Ty.off_le t (s :: p) (by simpa [AV.okp] using h)
    simpa [AV.off, AV.size] using this
  | .comp fs, .fld i :: p, h => by
    have := AV.offs_le fs i p (by simpa [AV.okp] using h)
    simpa [AV.off, AV.size] using this
  | .comp fs, .idx i :: p, h => by
    have := AV.offs_le fs i p (by simpa [AV.okp] using h)
    simpa [AV.off, AV.size] using this
  | .ptr _ _, _ :: _, ho | .nilp, _ :: _, ho | .slice _, _ :: _, ho | .nils, _ :: _, ho | .fn _ _, _ :: _, ho
  | .nilf, _ :: _, ho | .tup _, _ :: _, ho | .elem _ _, _ :: _, ho | .undef, _ :: _, ho => by simp [AV.okp] at ho
theorem AV.offs_le : ∀ (l : List AV) (i : Nat) (p : List Step), AV.okps l i p = true → AV.offs l i p ≤ AV.sizes l
  | [], _, _, h => by simp [AV.okps] at h
  | a :: l, 0, p, h => by
    have := AV.off_le a p (by simpa [AV.okps] using h)
    simp only [AV.offs, AV.sizes]; omega
  | a :: l, i + 1, p, h => by
    have := AV.offs_le l i p (by simpa [AV.okps] using h)
    simp only [AV.offs, AV.sizes]; omega
end

theorem AV.same_refl (a : AV) : a.same a := ⟨rfl, rfl, fun _ => ⟨rfl, rfl⟩⟩

mutual
theorem RC.set : ∀ (a : AV) (cs : List Value) (p : List Step) (v : AV) (c : List Value) (a' : AV), RC μ mem sh w a cs → RC μ mem sh w v c → a.set p v = some a' → a.okp p = true →
    RC μ mem sh w a' (cs.take (a.off p) ++ c ++ cs.drop (a.off p + c.length)) ∧ a.same a'
  | a, cs, [], v, c, a', h, hv, hs, _ => by
    have hs' : (if a.lay v then some v else none) = some a' := by cases a <;> exact hs
    split at hs'
    · rename_i hl
      cases hs'
      have := AV.lay_same _ _ hl
      have h1 := RC.length _ _ h
      have h2 := RC.length _ _ hv
      refine ⟨?_, this⟩
      rw [AV.off_nil, List.take_zero, Nat.zero_add, List.drop_eq_nil_of_le (by rw [h1, h2, this.1]; exact Nat.le_refl _)]
      simpa using hv
    · cases hs'
  | .val t x, cs, s :: p, v, c, a', h, hv, hs, ho => by
    simp only [AV.set, Option.map_eq_some_iff] at hs
    obtain ⟨y, hy, rfl⟩ := hs
    obtain ⟨s', z, rfl⟩ := Ty.set_val t _ v x y hy
    refine ⟨?_, rfl, rfl, fun p => by cases p <;> simp [AV.okp, AV.off]⟩
    exact Ty.set_enc t x cs (s :: p) s' z c y h hv hy (by simpa [AV.okp] using ho)
  | .comp fs, cs, .fld i :: p, v, c, a', h, hv, hs, ho => by
    simp only [AV.set, Option.map_eq_some_iff] at hs
    obtain ⟨l, hl, rfl⟩ := hs
    have ih := RCs.set fs cs i p v c l h hv hl (by simpa [AV.okp] using ho)
    refine ⟨ih.1, by simp [AV.size, ih.2.1], rfl, fun p => ?_⟩
    cases p with
    | nil => simp [AV.okp, AV.off]
    | cons s p => cases s <;> simp [AV.okp, AV.off, (ih.2.2 _ p).1, (ih.2.2 _ p).2]
  | .comp fs, cs, .idx i :: p, v, c, a', h, hv, hs, ho => by
    simp only [AV.set, Option.map_eq_some_iff] at hs
    obtain ⟨l, hl, rfl⟩ := hs
    have ih := RCs.set fs cs i p v c l h hv hl (by simpa [AV.okp] using ho)
    refine ⟨ih.1, by simp [AV.size, ih.2.1], rfl, fun p => ?_⟩
    cases p with
    | nil => simp [AV.okp, AV.off]
    | cons s p => cases s <;> simp [AV.okp, AV.off, (ih.2.2 _ p).1, (ih.2.2 _ p).2]
  | .ptr _ _, _, _ :: _, _, _, _, _, _, _, ho | .nilp, _, _ :: _, _, _, _, _, _, _, ho | .slice _, _, _ :: _, _, _, _, _, _, _, ho | .nils, _, _ :: _, _, _, _, _, _, _, ho | .fn _ _, _, _ :: _, _, _, _, _, _, _, ho
  | .nilf, _, _ :: _, _, _, _, _, _, _, ho | .tup _, _, _ :: _, _, _, _, _, _, _, ho | .elem _ _, _, _ :: _, _, _, _, _, _, _, ho | .undef, _, _ :: _, _, _, _, _, _, _, ho => by simp [AV.okp] at ho
theorem RCs.set : ∀ (l : List AV) (cs : List Value) (i : Nat) (p : List Step) (v : AV) (c : List Value) (l' : List AV), RCs μ mem sh w l cs → RC μ mem sh w v c → AV.sets l i p v = some l' →
    AV.okps l i p = true → RCs μ mem sh w l' (cs.take (AV.offs l i p) ++ c ++ cs.drop (AV.offs l i p + c.length)) ∧
    (AV.sizes l = AV.sizes l' ∧ ∀ i p, AV.okps l i p = AV.okps l' i p ∧ AV.offs l i p = AV.offs l' i p)
  | [], _, _, _, _, _, _, _, _, hs, _ => by simp [AV.sets] at hs
  | a :: l, cs, 0, p, v, c', l', ⟨c, d, e, h1, h2⟩, hv, hs, ho => by
    simp only [AV.sets, Option.map_eq_some_iff] at hs
    obtain ⟨a', ha, rfl⟩ := hs
    have ho' : a.okp p = true := by simpa [AV.okps] using ho
    have ih := RC.set a c p v c' a' h1 hv ha ho'
    have hl := RC.length _ _ ih.1
    have hl2 := RC.length _ _ h1
    have hle := AV.off_le a p ho'
    refine ⟨⟨_, d, ?_, ih.1, h2⟩, by simp [AV.sizes, ih.2.1], fun i p => ?_⟩
    · subst e
      simp only [AV.offs]
      simp only [List.length_append, List.length_take, List.length_drop, ← ih.2.1] at hl
      rw [List.take_append, List.drop_append]
      rw [show a.off p - c.length = 0 from by omega, show a.off p + c'.length - c.length = 0 from by omega]
      simp
    · cases i <;> simp [AV.okps, AV.offs, (ih.2.2.2 p).1, (ih.2.2.2 p).2, ih.2.1]
  | a :: l, cs, i + 1, p, v, c', l', ⟨c, d, e, h1, h2⟩, hv, hs, ho => by
    simp only [AV.sets, Option.map_eq_some_iff] at hs
    obtain ⟨a', ha, rfl⟩ := hs
    have ih := RCs.set l d i p v c' a' h2 hv ha (by simpa [AV.okps] using ho)
    have hl2 := RC.length _ _ h1
    refine ⟨⟨c, _, ?_, h1, ih.1⟩, by simp [AV.sizes, ih.2.1], fun i p => ?_⟩
    · subst e
      simp only [AV.offs]
      rw [List.take_append, List.drop_append, hl2, List.take_of_length_le (by omega), List.drop_eq_nil_of_le (by omega)]
      rw [show a.size + AV.offs l i p - a.size = AV.offs l i p from by omega]
      rw [show a.size + AV.offs l i p + c'.length - a.size = AV.offs l i p + c'.length from by omega]
      simp
    · cases i <;> simp [AV.okps, AV.offs, (ih.2.2 _ p).1, (ih.2.2 _ p).2]
end
end
end Am

/- THE ABSTRACT MACHINE: memory at work: a part is loaded, stored; a block is made, let go. -/
namespace Am
open Go

/-- What is told of a type is so. -/
def TDOk (d : TypeDesc) : TD → Prop
  | .int k => d = .int k
  | .bool => d = .bool
  | .str => d = .string
  | .ptr => ∃ e, d = .pointer e
  | .slice e => d = .slice e
  | .arr n e => d = .array n e
  | .struct fs => ∃ l, d = .struct l ∧ l.toList.map (fun f => (f.type, f.offset)) = fs ∧ ∀ f ∈ l.toList, f.name ≠ "_"
  | .func => ∃ a b c, d = .func a b c
  | .other => True

def aggDesc (d : TypeDesc) : Bool := match d with | .struct _ | .array _ _ => true | _ => false

mutual
/-- A type's values can be compared, part by part. -/
def EqOk (P : Program) : TypeId → Ty → Prop
  | t, .int k => P.underlying t = some (.int k)
  | t, .bool => P.underlying t = some .bool
  | t, .str => P.underlying t = some .string
  | t, .arr n s => ∃ e i d, P.underlying t = some (.array n e) ∧ P.info? e = some i ∧ i.size = s.size ∧ P.underlying e = some d ∧ aggDesc d = s.agg ∧ EqOk P e s
  | t, .pair a b => ∃ fs, P.underlying t = some (.struct fs) ∧ P.stoodInHeld t = false ∧ EqFs P fs.toList 0 (.pair a b)
  | t, .unit => ∃ fs, P.underlying t = some (.struct fs) ∧ P.stoodInHeld t = false ∧ EqFs P fs.toList 0 .unit
  | _, .list _ => False
def EqFs (P : Program) : List Field → Nat → Ty → Prop
  | [], _, s => s = .unit
  | f :: fs, off, .pair a b => f.name ≠ "_" ∧ f.offset = off ∧ (∃ i d, P.info? f.type = some i ∧ i.size = a.size ∧ P.underlying f.type = some d ∧ aggDesc d = a.agg) ∧ EqOk P f.type a ∧ EqFs P fs (off + a.size) b
  | _, _, _ => False
end

structure TRowOk (P : Program) (t : TypeId) (r : TRow) : Prop where
  row : ∃ i d, P.info? t = some i ∧ P.underlying t = some d ∧ i.size = r.size ∧ TDOk d r.td ∧ aggDesc d = r.agg ∧ i.bytes ≤ 512 ∧
    (∀ z, r.zero = some z → ∃ v, i.zero = some v ∧ z.agg = r.agg ∧ z.known = true ∧ ∀ μ mem sh w, ∃ cs, RC μ mem sh w z cs ∧ (if z.agg then v = .agg cs.toArray else cs = [v])) ∧
    (∀ s, r.ty = some s → s.size = r.size ∧ s.agg = r.agg ∧ ∃ v, i.zero = some v ∧ v.cells.toList = s.zc) ∧
    (∀ l, d = .struct l → ∀ f ∈ l.toList, (P.info? f.type).isSome = true) ∧
    (r.eq = true → P.eqGuardType P.depth t = false ∧ ∃ s, r.ty = some s ∧ EqOk P t s)

def TOk (P : Program) (T : TypeId → TRow) : Prop := ∀ t, (T t).ok = true → TRowOk P t (T t)

section
variable {P : Program} {μ μ' : Mu} {mem mem' : Mem} {sh sh' : Nat → Prop} {w w' : World}

theorem addr_add (g o j : Nat) : (⟨g, o, none⟩ : Addr).add j = ⟨g, o + j, none⟩ := by
  unfold Addr.add; split <;> simp_all

/-- What is loaded of a row of cells. -/
theorem run_loadVar_part {ty : TypeId} {i : TypeInfo} {d : TypeDesc} (hi : P.info? ty = some i) (hu : P.underlying ty = some d) {g o : Nat} {c : Array Value} {e : TypeId} {fr : Nat × Nat}
    (hg : w.heap[g]? = some (.cells c e fr)) {cs : List Value} (hc : (c.toList.drop o).take i.size = cs) (hn : cs.length = i.size) (h1 : aggDesc d = false → i.size = 1) :
    (loadVar ty ⟨g, o, none⟩).run P w = .ok (if aggDesc d then .agg cs.toArray else cs.headD undef) w := by
  have hl : (loadCells ⟨g, o, none⟩ cs.length).run P w = .ok cs.toArray w :=
    run_loadCells_list (P := P) w ⟨g, o, none⟩ cs (fun j v hv => by
      rw [addr_add, cell_of_row w g (o + j) c e fr hg]
      rw [← hc] at hv
      rw [List.getElem?_take] at hv
      split at hv
      · rw [List.getElem?_drop] at hv; simpa using hv
      · cases hv)
  have hagg : (isAgg ty).run P w = .ok (aggDesc d) w := by
    unfold isAgg
    rw [Sem.run_bind, run_underlying hu w]
    cases d <;> simp [aggDesc]
  cases ha : aggDesc d with
  | true =>
    simp [loadVar, Sem.run_bind, hagg, ha, Go.sizeOf, typeInfo, hi, ← hn, hl]
  | false =>
    have h2 := h1 ha
    have hcell : w.cell? ⟨g, o, none⟩ = some (cs.headD undef) := by
      rw [cell_of_row w g o c e fr hg]
      match cs, hn, h2, hc with
      | [v], _, _, hc =>
        rw [h2] at hc
        have : (List.take 1 (List.drop o c.toList))[0]? = some v := by rw [hc]; rfl
        rw [List.getElem?_take, if_pos (by omega), List.getElem?_drop] at this
        simpa using this
      | [], hn, h2, _ => simp at hn; omega
      | _ :: _ :: _, hn, h2, _ => simp at hn; omega
    simp [loadVar, Sem.run_bind, hagg, ha, run_load, hcell]

theorem AV.known_agg {v : AV} (h : v.agg = true) : v.known = true := by cases v <;> simp_all [AV.agg, AV.known]

theorem AV.size_one {v : AV} (h : v.agg = false) : v.size = 1 := by
  cases v <;> simp_all [AV.agg, AV.size]
  exact (Ty.atom_okp h []).2.2

theorem RV.of_cells {v : AV} {cs : List Value} (h : RC μ mem sh w v cs) : RV μ mem sh w v (if v.agg then .agg cs.toArray else cs.headD undef) := by
  refine ⟨cs, h, ?_⟩
  cases ha : v.agg with
  | true => simp
  | false =>
    have := RC.length _ _ h
    rw [AV.size_one ha] at this
    match cs, this with
    | [x], _ => simp

/-- A block's own cells, and the part at a path. -/
theorem part_of (hM : MemR μ mem sh w) {id : Nat} {b : Blk} {p : List Step} {v : AV} {x : Value} (hb : mem[id]? = some b) (hg : b.get p = some v) (hp : PtrR μ mem id p x) :
    ∃ g n c e, μ[id]? = some (some (g, n)) ∧ x = .pointer (some ⟨g, b.off p, none⟩) ∧ b.okp p = true ∧ w.heap[g]? = some (.cells c e (0, 0)) ∧ c.size = n ∧ ¬ sh g ∧
      RC μ mem sh w v ((c.toList.drop (b.off p)).take v.size) := by
  have hB := hM.blk id b hb
  unfold PtrR at hp
  rw [hb] at hp
  cases b with
  | dead => simp [Blk.get] at hg
  | iter => simp [Blk.get] at hg
  | var u =>
    obtain ⟨g, n, h1, h2, h3⟩ := hp
    obtain ⟨g', n', c, e, k1, k2, k3, k4, k5⟩ := hB
    rw [h1] at k1
    cases k1
    exact ⟨g, n, c, e, h1, h3, h2, k2, k3, k5, RC.get u c.toList p v k4 (by simpa [Blk.get] using hg) (by simpa [Blk.okp] using h2)⟩
  | list t l =>
    obtain ⟨g, n, h1, h2, h3⟩ := hp
    rcases hB with ⟨k1, _⟩ | ⟨g', n', c, e, cs, k1, k2, k3, k4, k5, k6⟩
    · rw [h1] at k1; cases k1
    rw [h1] at k1
    cases k1
    refine ⟨g, n, c, e, h1, h3, h2, k2, k3, k6, ?_⟩
    rcases p with _ | ⟨_ | i, p⟩ <;> simp [Blk.get] at hg <;> simp [Blk.okp] at h2
    have hL := EncL.length (Enc.length t) l cs k4
    have hE := EncL.get (Enc.length t) t.dflt l cs i k4 h2.1
    obtain ⟨s, y, rfl, hy⟩ := Ty.get_enc t _ _ p v hE (by simpa [List.getD] using hg) h2.2
    have hl := Enc.length _ _ _ hy
    simp only [AV.size]
    show Enc sh w s y _
    simp only [Blk.off]
    rw [List.drop_take, List.drop_drop, List.take_take] at hy
    rw [List.length_take, List.length_drop, List.length_take, List.length_drop] at hl
    by_cases h0 : s.size = 0
    · rw [h0] at hy ⊢
      simpa using hy
    · rw [Nat.min_eq_left (by omega)] at hy
      have hm : i * t.size + t.size ≤ cs.length := by
        rw [hL, ← Nat.succ_mul]; exact Nat.mul_le_mul_right _ h2.1
      have hcs : ∀ m k, m + k ≤ cs.length → (c.toList.drop m).take k = (cs.drop m).take k := by
        intro m k hmk
        rw [← k5, List.drop_take, List.take_take, Nat.min_eq_left (by omega)]
      rw [hcs _ _ (by omega)]
      exact hy

/-- What was got: the answer stands, in a world that has gone on. -/
def Got {R : Type} (k : AV → Mem → Option R) (r : R) (μ : Mu) (mem : Mem) (sh : Nat → Prop) (w : World) (v : Value) (w' : World) : Prop :=
  ∃ a mem' μ' sh', k a mem' = some r ∧ RV μ' mem' sh' w' a v ∧ MemR μ' mem' sh' w' ∧ Mv μ mem sh w μ' mem' sh' w'

theorem Got.same {R : Type} {k : AV → Mem → Option R} {r : R} {a : AV} {v : Value} (hM : MemR μ mem sh w) (h : k a mem = some r) (hv : RV μ mem sh w a v) : Got k r μ mem sh w v w :=
  ⟨a, mem, μ, sh, h, hv, hM, Mv.refl _ _ _ _⟩

theorem chk_spec {r : TRow} {v : AV} (h : chk r v = true) : r.ok = true ∧ v.size = r.size ∧ v.agg = r.agg ∧ v.known = true := by
  simp only [chk, Bool.and_eq_true, beq_iff_eq] at h
  exact ⟨h.1, h.2.1.1, h.2.1.2, h.2.2⟩

theorem load_ok {R : Type} {T : TypeId → TRow} (hT : TOk P T) {t : TypeId} {a : AV} {x : Value} {k : AV → Option R} {r : R} (hM : MemR μ mem sh w) (ha : RV μ mem sh w a x)
    (h : loadK T t a mem k = some r) :
    ∃ v, (Instr.loadAt t x).run P w = .ok v w ∧ ∃ av, k av = some r ∧ RV μ mem sh w av v := by
  have key : ∀ (av : AV) (g o : Nat) (c : Array Value) (e : TypeId), x = .pointer (some ⟨g, o, none⟩) → w.heap[g]? = some (.cells c e (0, 0)) → chk (T t) av = true →
      RC μ mem sh w av ((c.toList.drop o).take av.size) → ∃ v, (Instr.loadAt t x).run P w = .ok v w ∧ RV μ mem sh w av v := by
    intro av g o c e hx hg hc hR
    obtain ⟨c0, c1, c2, c3⟩ := chk_spec hc
    obtain ⟨i, d, hi, hd, hs, _, hagg, _, _⟩ := (hT t c0).row
    have hl := RC.length _ _ hR
    rw [c1, ← hs] at hR hl
    refine ⟨_, ?_, RV.of_cells hR⟩
    have := run_loadVar_part (w := w) hi hd hg rfl hl (fun h0 => by rw [hs, ← c1]; exact AV.size_one (by rw [c2, ← hagg, h0]))
    simp only [Instr.loadAt, Instr.sureAddr, hx, Sem.run_bind, Sem.run_pure, Result.andThen_ok, this, hagg, c2]
  cases a with
  | ptr id p =>
    obtain ⟨cs, ⟨v, rfl, hp⟩, hcv⟩ := ha
    simp only [AV.agg, Bool.false_eq_true, if_false, List.cons.injEq, and_true] at hcv
    subst hcv
    simp only [loadK] at h
    split at h <;> try cases h
    rename_i b hb
    split at h <;> try cases h
    rename_i av hav
    split at h <;> try cases h
    rename_i hc
    obtain ⟨g, n, c, e, h1, h2, h3, h4, h5, h6, h7⟩ := part_of hM hb hav hp
    obtain ⟨v', hv', hr⟩ := key av g _ c e h2 h4 hc h7
    exact ⟨v', hv', av, h, hr⟩
  | elem s y =>
    obtain ⟨cs, ⟨b, off, c, e, cs', h1, h2, h3, h4, h5⟩, hcv⟩ := ha
    simp only [AV.agg, Bool.false_eq_true, if_false] at hcv
    rw [hcv] at h1
    cases h1
    simp only [loadK] at h
    split at h <;> try cases h
    rename_i hc
    have hlen := Enc.length _ _ _ h4
    obtain ⟨v', hv', hr⟩ := key (.val s y) b off c e rfl h3 hc (by
      show Enc sh w s y ((c.toList.drop off).take s.size)
      rw [← hlen, h5]; exact h4)
    exact ⟨v', hv', _, h, hr⟩
  | _ => simp [loadK] at h

end
end Am

/- THE ABSTRACT MACHINE: a block is written, made, let go. -/
namespace Am
open Go

section
variable {P : Program} {μ μ' : Mu} {mem mem' : Mem} {sh sh' : Nat → Prop} {w w' : World}

theorem BR.ext {id : Nat} {b : Blk} (h : BR μ mem sh w id b) (he : Ext μ mem μ' mem') (hk : ShKeep sh w sh' w') (hμ : μ'[id]? = μ[id]?)
    (hg : ∀ g n, μ[id]? = some (some (g, n)) → b ≠ .dead → w'.heap[g]? = w.heap[g]? ∧ (¬ sh g → ¬ sh' g)) : BR μ' mem' sh' w' id b := by
  cases b with
  | dead => trivial
  | var v =>
    obtain ⟨g, n, c, e, h1, h2, h3, h4, h5⟩ := h
    obtain ⟨k1, k2⟩ := hg g n h1 (by simp)
    exact ⟨g, n, c, e, hμ.trans h1, k1.trans h2, h3, RC.ext he hk v _ h4, k2 h5⟩
  | list t l =>
    rcases h with ⟨h1, h2⟩ | ⟨g, n, c, e, cs, h1, h2, h3, h4, h5, h6⟩
    · exact .inl ⟨hμ.trans h1, h2⟩
    · obtain ⟨k1, k2⟩ := hg g n h1 (by simp)
      exact .inr ⟨g, n, c, e, cs, hμ.trans h1, k1.trans h2, h3, EncL.mono (Enc.keep hk t) l cs h4, h5, k2 h6⟩
  | iter s pos =>
    obtain ⟨g, n, h1, h2, h3⟩ := h
    obtain ⟨k1, k2⟩ := hg g n h1 (by simp)
    exact ⟨g, n, hμ.trans h1, k1.trans h2, k2 h3⟩

theorem Ext.set {id : Nat} {b b' : Blk} (hb : mem[id]? = some b) (hl : b' = .dead ∨ BLay b b') : Ext μ mem μ (mem.set id b') := by
  intro i c hc
  by_cases h : id = i
  · subst h
    rw [hb] at hc
    cases hc
    have hlt : id < mem.length := (List.getElem?_eq_some_iff.1 hb).1
    exact ⟨b', by rw [List.getElem?_set_self hlt], hl.imp (fun h => h) (fun h => ⟨rfl, h⟩)⟩
  · exact ⟨c, by rw [List.getElem?_set_ne h]; exact hc, .inr ⟨rfl, BLay.refl c⟩⟩

theorem Ext.push (m : Option (Nat × Nat)) (b : Blk) (hlen : μ.length = mem.length) : Ext μ mem (μ ++ [m]) (mem ++ [b]) := by
  intro i c hc
  have hlt : i < mem.length := (List.getElem?_eq_some_iff.1 hc).1
  exact ⟨c, by rw [List.getElem?_append_left hlt]; exact hc, .inr ⟨by rw [List.getElem?_append_left (by omega)], BLay.refl c⟩⟩

/-- A block that is its own is written. -/
theorem MemR.write (hM : MemR μ mem sh w) {id g n : Nat} {b b' : Blk} (hb : mem[id]? = some b) (hd : b ≠ .dead) (hμ : μ[id]? = some (some (g, n))) (hns : ¬ sh g)
    (hl : BLay b b') (hs : w'.heap.size = w.heap.size) (ho : ∀ g', g' ≠ g → w'.heap[g']? = w.heap[g']?)
    (hB : Ext μ mem μ (mem.set id b') → ShKeep sh w sh w' → BR μ (mem.set id b') sh w' id b') (hos : SameOs w w' := by exact ⟨rfl, rfl⟩) :
    MemR μ (mem.set id b') sh w' ∧ Mv μ mem sh w μ (mem.set id b') sh w' := by
  have he : Ext μ mem μ (mem.set id b') := Ext.set hb (.inr hl)
  have hk : ShKeep sh w sh w' := ⟨fun _ h => h, fun x hx => ho x (fun e => hns (e ▸ hx))⟩
  have hlt : id < mem.length := (List.getElem?_eq_some_iff.1 hb).1
  have hd' : b' ≠ .dead := by
    rintro rfl
    cases b <;> simp [BLay] at hl
    exact hd rfl
  refine ⟨⟨by simpa using hM.len, ?_, ?_, ?_, ?_⟩, ⟨he, hk, by omega, ?_, fun _ h => .inl h, fun i _ n h => .inl ⟨i, n, h⟩, hos⟩⟩
  · intro i c hc
    by_cases h : id = i
    · subst h
      rw [List.getElem?_set_self hlt] at hc
      cases hc
      exact hB he hk
    · rw [List.getElem?_set_ne h] at hc
      refine (hM.blk i c hc).ext he hk rfl ?_
      intro g' n' hg' hcd
      refine ⟨ho g' ?_, fun h => h⟩
      rintro rfl
      exact h (hM.inj id i _ n n' b c hb hc hd hcd hμ hg')
  · intro i j g' n' m' c d hc hd2 hcd hdd hi hj
    have key : ∀ (i : Nat) (c : Blk), (mem.set id b')[i]? = some c → c ≠ .dead → ∃ c', mem[i]? = some c' ∧ c' ≠ .dead := by
      intro i c hc hcd
      by_cases h : id = i
      · subst h; exact ⟨b, hb, hd⟩
      · rw [List.getElem?_set_ne h] at hc; exact ⟨c, hc, hcd⟩
    obtain ⟨c', hc', hcd'⟩ := key i c hc hcd
    obtain ⟨d', hd', hdd'⟩ := key j d hd2 hdd
    exact hM.inj i j g' n' m' c' d' hc' hd' hcd' hdd' hi hj
  · intro g' h; rw [hs]; exact hM.shl g' h
  · intro i g' n' h; rw [hs]; exact hM.mul i g' n' h
  · intro g' hg' hn
    exact ho g' (fun e => hn id n (e ▸ hμ))

/-- A block is let go, or told to be written no more. -/
theorem MemR.kill (hM : MemR μ mem sh w) {id : Nat} {b : Blk} (hb : mem[id]? = some b) :
    MemR μ (mem.set id Blk.dead) sh w ∧ Mv μ mem sh w μ (mem.set id Blk.dead) sh w := by
  have he : Ext μ mem μ (mem.set id Blk.dead) := Ext.set hb (.inl rfl)
  have hk : ShKeep sh w sh w := ⟨fun _ h => h, fun _ _ => rfl⟩
  have hlt : id < mem.length := (List.getElem?_eq_some_iff.1 hb).1
  refine ⟨⟨by simpa using hM.len, ?_, ?_, hM.shl, hM.mul⟩, ⟨he, hk, Nat.le_refl _, fun _ _ _ => rfl, fun _ h => .inl h, fun i _ n h => .inl ⟨i, n, h⟩, ⟨rfl, rfl⟩⟩⟩
  · intro i c hc
    by_cases h : id = i
    · subst h
      rw [List.getElem?_set_self hlt] at hc
      cases hc
      trivial
    · rw [List.getElem?_set_ne h] at hc
      exact (hM.blk i c hc).ext he hk rfl (fun _ _ _ _ => ⟨rfl, fun h => h⟩)
  · intro i j g' n' m' c d hc hd2 hcd hdd hi hj
    have key : ∀ (i : Nat) (c : Blk), (mem.set id Blk.dead)[i]? = some c → c ≠ .dead → mem[i]? = some c := by
      intro i c hc hcd
      by_cases h : id = i
      · subst h
        rw [List.getElem?_set_self hlt] at hc
        cases hc
        exact absurd rfl hcd
      · rwa [List.getElem?_set_ne h] at hc
    exact hM.inj i j g' n' m' c d (key i c hc hcd) (key j d hd2 hdd) hcd hdd hi hj

/-- A list's block is told to be written no more: from now on it is anybody's. -/
theorem MemR.freeze (hM : MemR μ mem sh w) {id : Nat} {t : Ty} {l : List t.den} (hb : mem[id]? = some (.list t l)) {v : Value} (hv : SlR μ mem id v) :
    ∃ sh', MemR μ (mem.set id Blk.dead) sh' w ∧ Mv μ mem sh w μ (mem.set id Blk.dead) sh' w ∧ Enc sh' w (.list t) l [v] := by
  have hB := hM.blk id _ hb
  unfold SlR at hv
  rw [hb] at hv
  obtain ⟨kM, kV⟩ := hM.kill hb
  rcases hB with ⟨h1, rfl⟩ | ⟨g, n, c, e, cs, h1, h2, h3, h4, h5, h6⟩
  · rcases hv with ⟨_, rfl⟩ | ⟨g, n, cap, k1, _⟩
    · exact ⟨sh, kM, kV, .inl ⟨rfl, rfl⟩⟩
    · rw [h1] at k1; cases k1
  · rcases hv with ⟨k1, _⟩ | ⟨g', n', cap, k1, rfl, k3, k4⟩
    · rw [h1] at k1; cases k1
    rw [h1] at k1
    cases k1
    have hk : ShKeep sh w (fun x => sh x ∨ x = g) w := ⟨fun _ h => .inl h, fun _ _ => rfl⟩
    have hlt : id < mem.length := (List.getElem?_eq_some_iff.1 hb).1
    have he : Ext μ mem μ (mem.set id Blk.dead) := Ext.set hb (.inl rfl)
    refine ⟨fun x => sh x ∨ x = g, ⟨kM.len, ?_, kM.inj, ?_, kM.mul⟩, ⟨he, hk, Nat.le_refl _, fun _ _ _ => rfl, ?_, fun i _ n h => .inl ⟨i, n, h⟩, ⟨rfl, rfl⟩⟩, ?_⟩
    · intro i c' hc
      by_cases h : id = i
      · subst h
        rw [List.getElem?_set_self hlt] at hc
        cases hc
        trivial
      · rw [List.getElem?_set_ne h] at hc
        refine (hM.blk i c' hc).ext he hk rfl ?_
        intro g' n' hg' hcd
        refine ⟨rfl, fun hns hor => ?_⟩
        rcases hor with hor | rfl
        · exact hns hor
        · exact h (hM.inj id i _ _ _ _ _ hb hc (by simp) hcd h1 hg')
    · intro x hx
      rcases hx with hx | rfl
      · exact hM.shl x hx
      · exact hM.mul id _ _ h1
    · intro x hx
      rcases hx with hx | rfl
      · exact .inl hx
      · exact .inr (.inl ⟨id, n, h1⟩)
    · refine .inr ⟨g, 0, cap, c, e, cs, rfl, .inr rfl, h2, EncL.mono (Enc.keep hk t) l cs h4, ?_⟩
      rw [List.drop_zero]; exact h5

/-- A block more. -/
theorem MemR.push (hM : MemR μ mem sh w) (m : Option (Nat × Nat)) (b : Blk) (hs : w.heap.size ≤ w'.heap.size)
    (hold : ∀ g, g < w.heap.size → (m.map (·.1)) ≠ some g → w'.heap[g]? = w.heap[g]?)
    (hm : ∀ g n, m = some (g, n) → g < w'.heap.size ∧ ¬ sh g ∧ (∀ (i k : Nat) c, mem[i]? = some c → c ≠ .dead → μ[i]? ≠ some (some (g, k))) ∧ ((∃ (i k : Nat), μ[i]? = some (some (g, k))) ∨ w.heap.size ≤ g))
    (hB : Ext μ mem (μ ++ [m]) (mem ++ [b]) → ShKeep sh w sh w' → BR (μ ++ [m]) (mem ++ [b]) sh w' mem.length b) (hos : SameOs w w' := by exact ⟨rfl, rfl⟩) :
    MemR (μ ++ [m]) (mem ++ [b]) sh w' ∧ Mv μ mem sh w (μ ++ [m]) (mem ++ [b]) sh w' := by
  have he := Ext.push m b hM.len
  have hk : ShKeep sh w sh w' := ⟨fun _ h => h, fun x hx => hold x (hM.shl x hx) (by
    cases m with
    | none => simp
    | some y => obtain ⟨g, n⟩ := y; simp; rintro rfl; exact (hm _ n rfl).2.1 hx)⟩
  have hμl := hM.len
  have hget : ∀ (i : Nat) c, (mem ++ [b])[i]? = some c → (i < mem.length ∧ mem[i]? = some c ∧ (μ ++ [m])[i]? = μ[i]?) ∨ (i = mem.length ∧ c = b ∧ (μ ++ [m])[i]? = some m) := by
    intro i c hc
    rcases Nat.lt_trichotomy i mem.length with h | h | h
    · rw [List.getElem?_append_left h] at hc
      exact .inl ⟨h, hc, List.getElem?_append_left (by omega)⟩
    · subst h
      rw [List.getElem?_append_right (Nat.le_refl _)] at hc
      simp at hc
      refine .inr ⟨rfl, hc.symm, ?_⟩
      rw [List.getElem?_append_right (by omega)]
      simp [hμl]
    · rw [List.getElem?_eq_none (by simp; omega)] at hc
      cases hc
  refine ⟨⟨by simp [hμl], ?_, ?_, ?_, ?_⟩, ⟨he, hk, hs, ?_, fun _ h => .inl h, ?_, hos⟩⟩
  · intro i c hc
    rcases hget i c hc with ⟨h1, h2, h3⟩ | ⟨rfl, rfl, h3⟩
    · refine (hM.blk i c h2).ext he hk h3 ?_
      intro g n hg hd
      refine ⟨hold g (hM.mul i g n hg) ?_, fun h => h⟩
      cases m with
      | none => simp
      | some y => obtain ⟨g', n'⟩ := y; simp; rintro rfl; exact (hm _ n' rfl).2.2.1 i n c h2 hd hg
    · exact hB he hk
  · intro i j g n k c d hc hd hcd hdd hi hj
    rcases hget i c hc with ⟨h1, h2, h3⟩ | ⟨rfl, rfl, h3⟩ <;> rcases hget j d hd with ⟨k1, k2, k3⟩ | ⟨rfl, rfl, k3⟩
    · exact hM.inj i j g n k c d h2 k2 hcd hdd (h3 ▸ hi) (k3 ▸ hj)
    · rw [k3] at hj
      cases hj
      exact absurd (h3 ▸ hi) ((hm g k rfl).2.2.1 i n c h2 hcd)
    · rw [h3] at hi
      cases hi
      exact absurd (k3 ▸ hj) ((hm g n rfl).2.2.1 j k d k2 hdd)
    · rfl
  · intro g h; exact Nat.lt_of_lt_of_le (hM.shl g h) hs
  · intro i g n h
    by_cases hi : i < μ.length
    · rw [List.getElem?_append_left hi] at h
      exact Nat.lt_of_lt_of_le (hM.mul i g n h) hs
    · rw [List.getElem?_append_right (by omega)] at h
      have : i - μ.length = 0 := by
        by_cases h0 : i - μ.length = 0
        · exact h0
        · rw [List.getElem?_eq_none (by simp; omega)] at h; cases h
      rw [this] at h
      simp at h
      exact (hm g n h).1
  · intro g hg hn
    refine hold g hg ?_
    cases m with
    | none => simp
    | some y =>
      obtain ⟨g', n'⟩ := y
      simp
      rintro rfl
      rcases (hm _ n' rfl).2.2.2 with ⟨i, k, h⟩ | h
      · exact hn i k h
      · omega
  · intro i g n h
    by_cases hi : i < μ.length
    · rw [List.getElem?_append_left hi] at h
      exact .inl ⟨i, n, h⟩
    · rw [List.getElem?_append_right (by omega)] at h
      have : i - μ.length = 0 := by
        by_cases h0 : i - μ.length = 0
        · exact h0
        · rw [List.getElem?_eq_none (by simp; omega)] at h; cases h
      rw [this] at h
      simp at h
      exact (hm g n h).2.2.2

end
end Am

/- THE ABSTRACT MACHINE: its operations on memory are the model's. -/
namespace Am
open Go

section
variable {P : Program} {μ μ' : Mu} {mem mem' : Mem} {sh sh' : Nat → Prop} {w w' : World} {R : Type} {T : TypeId → TRow}

theorem EncL.cells {t : Ty} (ht : ∀ (x : t.den) (cs : List Value), Enc sh w t x cs → ∀ v ∈ cs, v.oneCell' = true) :
    ∀ (l : List t.den) (cs : List Value), EncL (Enc sh w t) l cs → ∀ v ∈ cs, v.oneCell' = true
  | [], cs, h => by simp [EncL] at h; subst h; simp
  | x :: l, cs, ⟨c, d, e, hc, hd⟩ => by
    subst e
    intro v hv
    rcases List.mem_append.1 hv with hv | hv
    · exact ht _ _ hc v hv
    · exact EncL.cells ht l d hd v hv

theorem Enc.cells : ∀ (t : Ty) (x : t.den) (cs : List Value), Enc sh w t x cs → ∀ v ∈ cs, v.oneCell' = true
  | .int _, _, _, h => by simp [Enc] at h; subst h; simp [Value.oneCell']
  | .bool, _, _, h => by simp [Enc] at h; subst h; simp [Value.oneCell']
  | .str, _, _, h => by simp [Enc] at h; subst h; simp [Value.oneCell']
  | .unit, _, _, h => by simp [Enc] at h; subst h; simp
  | .pair a b, x, cs, ⟨c, d, e, hc, hd⟩ => by
    subst e
    intro v hv
    rcases List.mem_append.1 hv with hv | hv
    · exact Enc.cells a _ _ hc v hv
    · exact Enc.cells b _ _ hd v hv
  | .arr n t, l, cs, ⟨_, h⟩ => EncL.cells (Enc.cells t) l cs h
  | .list t, l, cs, h => by
    rcases h with ⟨h, _⟩ | ⟨_, _, _, _, _, _, h, _⟩ <;> subst h <;> simp [Value.oneCell']

theorem RC.atom_cell {a : AV} {cs : List Value} (h : RC μ mem sh w a cs) (ha : a.atom = true) : ∀ v ∈ cs, v.oneCell' = true := by
  cases a with
  | val t x => exact Enc.cells t x cs h
  | ptr id p =>
    obtain ⟨v, rfl, hv⟩ := h
    obtain ⟨a, rfl⟩ := hv.pointer
    simp [Value.oneCell']
  | slice id =>
    obtain ⟨v, rfl, hv⟩ := h
    obtain ⟨a, l, c, rfl⟩ := hv.slice
    simp [Value.oneCell']
  | nilp => simp [RC] at h; subst h; simp [Value.oneCell']
  | nils => simp [RC] at h; subst h; simp [Value.oneCell']
  | nilf => simp [RC] at h; subst h; simp [Value.oneCell']
  | fn f caps => obtain ⟨vs, rfl, _⟩ := h; simp [Value.oneCell']
  | elem t x => obtain ⟨b, off, c, e, cs', rfl, _⟩ := h; simp [Value.oneCell']
  | comp fs => simp [AV.atom] at ha
  | tup vs => simp [AV.atom] at ha
  | undef => simp [AV.atom] at ha

mutual
theorem RC.lay_cells : ∀ (u v : AV) (cs : List Value), u.lay v = true → RC μ mem sh w v cs → ∀ x ∈ cs, x.oneCell' = true
  | .comp us, v, cs, h, hv => by
    cases v <;> simp [AV.lay, AV.atom] at h
    exact RCs.lay_cells us _ cs h hv
  | .val t x, v, cs, h, hv => by
    cases v with
    | val s y => exact Enc.cells s y cs hv
    | _ => simp only [AV.lay, Bool.and_eq_true] at h; exact hv.atom_cell h.2
  | .ptr _ _, v, cs, h, hv | .nilp, v, cs, h, hv | .slice _, v, cs, h, hv | .nils, v, cs, h, hv | .fn _ _, v, cs, h, hv | .nilf, v, cs, h, hv
  | .tup _, v, cs, h, hv | .elem _ _, v, cs, h, hv | .undef, v, cs, h, hv => by
    cases v <;> simp only [AV.lay, Bool.and_eq_true] at h <;> exact hv.atom_cell h.2
theorem RCs.lay_cells : ∀ (us vs : List AV) (cs : List Value), AV.lays us vs = true → RCs μ mem sh w vs cs → ∀ x ∈ cs, x.oneCell' = true
  | [], vs, cs, h, hv => by
    cases vs <;> simp [AV.lays] at h
    simp [RCs] at hv; subst hv; simp
  | u :: us, vs, cs, h, hv => by
    cases vs with
    | nil => simp [AV.lays] at h
    | cons v vs =>
      simp only [AV.lays, Bool.and_eq_true] at h
      obtain ⟨c, d, rfl, h1, h2⟩ := hv
      intro x hx
      rcases List.mem_append.1 hx with hx | hx
      · exact RC.lay_cells u v c h.1 h1 x hx
      · exact RCs.lay_cells us vs d h.2 h2 x hx
end

mutual
theorem AV.set_cells : ∀ (a : AV) (p : List Step) (v a' : AV), a.set p v = some a' → ∀ cs, RC μ mem sh w v cs → ∀ x ∈ cs, x.oneCell' = true
  | a, [], v, a', hs, cs, hv => by
    have hs' : (if a.lay v then some v else none) = some a' := by cases a <;> exact hs
    split at hs'
    · rename_i hl; exact RC.lay_cells a v cs hl hv
    · cases hs'
  | .val t x, s :: p, v, a', hs, cs, hv => by
    simp only [AV.set, Option.map_eq_some_iff] at hs
    obtain ⟨y, hy, rfl⟩ := hs
    obtain ⟨s', z, rfl⟩ := Ty.set_val t _ v x y hy
    exact Enc.cells s' z cs hv
  | .comp fs, .fld i :: p, v, a', hs, cs, hv => by
    simp only [AV.set, Option.map_eq_some_iff] at hs
    obtain ⟨l, hl, rfl⟩ := hs
    exact AV.sets_cells fs i p v l hl cs hv
  | .comp fs, .idx i :: p, v, a', hs, cs, hv => by
    simp only [AV.set, Option.map_eq_some_iff] at hs
    obtain ⟨l, hl, rfl⟩ := hs
    exact AV.sets_cells fs i p v l hl cs hv
  | .ptr _ _, _ :: _, _, _, hs, _, _ | .nilp, _ :: _, _, _, hs, _, _ | .slice _, _ :: _, _, _, hs, _, _ | .nils, _ :: _, _, _, hs, _, _ | .fn _ _, _ :: _, _, _, hs, _, _
  | .nilf, _ :: _, _, _, hs, _, _ | .tup _, _ :: _, _, _, hs, _, _ | .elem _ _, _ :: _, _, _, hs, _, _ | .undef, _ :: _, _, _, hs, _, _ => by simp [AV.set] at hs
theorem AV.sets_cells : ∀ (l : List AV) (i : Nat) (p : List Step) (v : AV) (l' : List AV), AV.sets l i p v = some l' → ∀ cs, RC μ mem sh w v cs → ∀ x ∈ cs, x.oneCell' = true
  | [], _, _, _, _, hs, _, _ => by simp [AV.sets] at hs
  | a :: l, 0, p, v, l', hs, cs, hv => by
    simp only [AV.sets, Option.map_eq_some_iff] at hs
    obtain ⟨a', ha, rfl⟩ := hs
    exact AV.set_cells a p v a' ha cs hv
  | a :: l, i + 1, p, v, l', hs, cs, hv => by
    simp only [AV.sets, Option.map_eq_some_iff] at hs
    obtain ⟨a', ha, rfl⟩ := hs
    exact AV.sets_cells l i p v a' ha cs hv
end

theorem AV.known_atom {a : AV} (hk : a.known = true) (ha : a.agg = false) : a.atom = true := by
  cases a <;> simp_all [AV.known, AV.agg, AV.atom]

theorem cells_one {v : Value} (h : v.oneCell' = true) : v.cells = #[v] := by cases v <;> simp_all [Value.oneCell', Value.cells]

/-- A value's cells. -/
theorem RV.cells {a : AV} {v : Value} (h : RV μ mem sh w a v) (hk : a.known = true) : RC μ mem sh w a v.cells.toList := by
  obtain ⟨cs, hc, hv⟩ := h
  cases ha : a.agg with
  | true =>
    simp only [ha, if_true] at hv
    subst hv
    exact hc
  | false =>
    simp only [ha, Bool.false_eq_true, if_false] at hv
    subst hv
    rw [cells_one (hc.atom_cell (AV.known_atom hk ha) v (by simp))]
    exact hc

theorem AV.set_known : ∀ (a : AV) (p : List Step) (v a' : AV), a.set p v = some a' → v.known = true := by
  intro a p v a' h
  cases hkn : v.known with
  | true => rfl
  | false =>
  exfalso
  have hk : v = .undef ∨ ∃ l, v = .tup l := by
    cases v <;> simp_all [AV.known]
  have key : ∀ (a : AV), a.lay v = false := by
    intro a
    rcases hk with rfl | ⟨l, rfl⟩ <;> cases a <;> simp [AV.lay, AV.atom]
  have hty : ∀ (t : Ty) (p : List Step) (x : t.den), t.set p v x = none := by
    intro t p x
    cases hs : t.set p v x with
    | none => rfl
    | some y => obtain ⟨s, z, rfl⟩ := Ty.set_val t p v x y hs; rcases hk with hk | ⟨l, hk⟩ <;> cases hk
  have : ∀ (a : AV) (p : List Step), a.set p v = none := by
    intro a
    induction a using AV.rec (motive_2 := fun l => ∀ i p, AV.sets l i p v = none) with
    | nil => rfl
    | cons a l ih1 ih2 =>
      rename_i i p
      cases i <;> simp [AV.sets, ih1, ih2]
    | val t x => intro p; cases p <;> simp [AV.set, key, hty]
    | comp fs ih => intro p; rcases p with _ | ⟨_ | _, p⟩ <;> simp [AV.set, key, ih]
    | _ => intro p; cases p <;> simp [AV.set, key]
  rw [this] at h
  cases h

theorem sizeOf_run {t : TypeId} {i : TypeInfo} (h : P.info? t = some i) : (Go.sizeOf t).run P w = .ok i.size w := by
  simp [Go.sizeOf, typeInfo, h]

theorem store_ok (hT : TOk P T) {t : TypeId} {a v : AV} {x y : Value} {k : AV → Mem → Option R} {r : R} (hM : MemR μ mem sh w) (ha : RV μ mem sh w a x) (hv : RV μ mem sh w v y)
    (h : storeK T t a v mem k = some r) :
    ∃ w' mem' , (Instr.storeAt t x y).run P w = .ok () w' ∧ k .undef mem' = some r ∧ MemR μ mem' sh w' ∧ Mv μ mem sh w μ mem' sh w' := by
  cases a with
  | ptr id p =>
    obtain ⟨cs, ⟨x', rfl, hp⟩, hcv⟩ := ha
    simp only [AV.agg, Bool.false_eq_true, if_false, List.cons.injEq, and_true] at hcv
    subst hcv
    simp only [storeK] at h
    split at h <;> try cases h
    rename_i b hb
    split at h <;> try cases h
    rename_i hsz
    split at h <;> try cases h
    rename_i b' hb'
    split at h <;> try cases h
    simp only [Bool.and_eq_true, beq_iff_eq] at hsz
    obtain ⟨i, d, hi, hd, hs, _, hagg, _, _⟩ := (hT t hsz.1).row
    have hB := hM.blk id b hb
    -- the value's cells
    have main : ∀ (g n : Nat) (c : Array Value) (e : TypeId), μ[id]? = some (some (g, n)) → x' = .pointer (some ⟨g, b.off p, none⟩) → w.heap[g]? = some (.cells c e (0, 0)) → c.size = n → ¬ sh g →
        b ≠ .dead → BLay b b' → v.known = true → (∀ cs, RC μ mem sh w v cs → ∀ x ∈ cs, x.oneCell' = true) → b.off p + v.size ≤ c.size →
        (∀ (c' : Array Value) (w' : World), RC μ mem sh w v y.cells.toList → c'.toList = c.toList.take (b.off p) ++ y.cells.toList ++ c.toList.drop (b.off p + y.cells.toList.length) → w'.heap[g]? = some (.cells c' e (0, 0)) →
          Ext μ mem μ (mem.set id b') → ShKeep sh w sh w' → BR μ (mem.set id b') sh w' id b') →
        ∃ w' mem' , (Instr.storeAt t x' y).run P w = .ok () w' ∧ k .undef mem' = some r ∧ MemR μ mem' sh w' ∧ Mv μ mem sh w μ mem' sh w' := by
      intro g n c e h1 h2 h3 h4 h5 h6 h7 h8 h9 h10 h11
      have hyc := hv.cells h8
      have hyl := RC.length _ _ hyc
      have hysz : y.cells.size = i.size := by
        rw [hs, ← hsz.2, ← hyl]; simp
      have hrun := run_storeCells_at (P := P) g (b.off p) e y.cells.toList 0 c w h3 (by rw [hyl]; simpa using h10) (h9 _ hyc)
      simp only [Nat.add_zero] at hrun
      have hrun' : (Instr.storeAt t x' y).run P w = .ok () (w.setRow g (c.toList.take (b.off p) ++ y.cells.toList ++ c.toList.drop (b.off p + y.cells.toList.length)).toArray) := by
        simp only [Instr.storeAt, Instr.sureAddr, h2, Sem.run_bind, Sem.run_pure, Result.andThen_ok, storeVar, sizeOf_run hi, hysz]
        simp [hrun]
      have hW := hM.write (w' := w.setRow g (c.toList.take (b.off p) ++ y.cells.toList ++ c.toList.drop (b.off p + y.cells.toList.length)).toArray) hb h6 h1 h5 h7 (by simp)
        (fun g' hg' => setRow_other w g g' _ hg') (fun he hk => h11 _ _ hyc (by simp) (setRow_heap w g c _ e _ h3) he hk)
      exact ⟨_, _, hrun', h, hW.1, hW.2⟩
    unfold PtrR at hp
    rw [hb] at hp
    cases b with
    | dead => simp [Blk.set] at hb'
    | iter => simp [Blk.set] at hb'
    | var u =>
      simp only [Blk.set, Option.map_eq_some_iff] at hb'
      obtain ⟨u', hu', rfl⟩ := hb'
      obtain ⟨g, n, h1, h2, h3⟩ := hp
      obtain ⟨g', n', c, e, k1, k2, k3, k4, k5⟩ := hB
      rw [h1] at k1
      cases k1
      have hok : u.okp p = true := h2
      have hkn := AV.set_known _ _ _ _ hu'
      have hyc := hv.cells hkn
      have hset := RC.set u c.toList p v _ u' k4 hyc hu' hok
      have hlen := RC.length _ _ hset.1
      have hcl := RC.length _ _ k4
      have hyl := RC.length _ _ hyc
      have hle := AV.off_le u p hok
      simp only [List.length_append, List.length_take, List.length_drop, Array.length_toList] at hlen hcl hyl
      refine main g n c e h1 h3 k2 k3 k5 (by simp) hset.2 hkn (fun cs hcs => AV.set_cells u p v u' hu' cs hcs) ?_ ?_
      · show u.off p + v.size ≤ c.size
        rw [← hset.2.1] at hlen
        omega
      · intro c' w' _ hc' hg' he hk
        refine ⟨g, n, c', e, h1, hg', ?_, ?_, k5⟩
        · have : c'.toList.length = c.size := by
            rw [hc']
            simp only [List.length_append, List.length_take, List.length_drop, Array.length_toList]
            simp only [Blk.off]
            rw [← hset.2.1] at hlen
            omega
          rw [← k3, ← this]; simp
        · rw [hc']
          exact RC.ext he hk u' _ hset.1
    | list t' l =>
      rcases p with _ | ⟨_ | j, p⟩ <;> simp only [Blk.set] at hb' <;> try cases hb'
      simp only [Option.map_eq_some_iff] at hb'
      obtain ⟨z, hz, rfl⟩ := hb'
      obtain ⟨g, n, h1, h2, h3⟩ := hp
      rcases hB with ⟨k1, _⟩ | ⟨g', n', c, e, cs, k1, k2, k3, k4, k5, k6⟩
      · rw [h1] at k1; cases k1
      rw [h1] at k1
      cases k1
      simp only [Blk.okp, Bool.and_eq_true, decide_eq_true_eq] at h2
      obtain ⟨s', z', rfl⟩ := Ty.set_val t' p v _ z hz
      have hyc := hv.cells (by rfl)
      have hE := EncL.get (Enc.length t') t'.dflt l cs j k4 h2.1
      have hS := Ty.set_enc t' _ _ p s' z' _ z hE hyc hz h2.2
      have hSL := EncL.set (Enc.length t') hS l cs j k4 h2.1
      have hL := EncL.length (Enc.length t') l cs k4
      have hSl := Enc.length _ _ _ hS
      have hEl := Enc.length _ _ _ hE
      have hyl : y.cells.toList.length = s'.size := Enc.length _ _ _ hyc
      have hle := Ty.off_le t' p h2.2
      have hyl2 : y.cells.size = s'.size := by simpa using hyl
      have hm : j * t'.size + t'.size ≤ cs.length := by
        rw [hL, ← Nat.succ_mul]; exact Nat.mul_le_mul_right _ h2.1
      simp only [List.length_append, List.length_take, List.length_drop] at hSl hEl
      have hcsl : cs.length ≤ c.size := by
        have := congrArg List.length k5
        simp only [List.length_take, Array.length_toList] at this
        omega
      refine main g n c e h1 h3 k2 k3 k6 (by simp) ⟨rfl, by simp⟩ rfl (fun cs hcs => Enc.cells s' z' cs hcs) ?_ ?_
      · show j * t'.size + t'.off p + s'.size ≤ c.size
        omega
      · intro c' w' _ hc' hg' he hk
        have hSL' : EncL (Enc sh w' t') (l.set j z) (cs.take (j * t'.size + t'.off p) ++ y.cells.toList ++ cs.drop (j * t'.size + t'.off p + y.cells.toList.length)) := by
          rw [splice_in cs _ (j * t'.size) t'.size (t'.off p) (by omega)]
          exact EncL.mono (Enc.keep hk t') _ _ hSL
        refine .inr ⟨g, n, c', e, _, h1, hg', ?_, hSL', ?_, k6⟩
        · have : c'.toList.length = c.size := by
            rw [hc']
            simp only [List.length_append, List.length_take, List.length_drop, Array.length_toList, Blk.off]
            omega
          rw [← k3, ← this]; simp
        · rw [hc']
          simp only [Blk.off]
          have hcs1 : c.toList = cs ++ c.toList.drop cs.length := by
            conv => lhs; rw [← List.take_append_drop cs.length c.toList, k5]
          have e1 : c.toList.take (j * t'.size + t'.off p) = cs.take (j * t'.size + t'.off p) := by
            rw [hcs1, List.take_append_of_le_length (by omega)]
          have e2 : c.toList.drop (j * t'.size + t'.off p + y.cells.toList.length) = cs.drop (j * t'.size + t'.off p + y.cells.toList.length) ++ c.toList.drop cs.length := by
            conv => lhs; rw [hcs1]
            rw [List.drop_append_of_le_length (by omega)]
          rw [e1, e2, ← List.append_assoc]
          apply List.take_left'
          rfl
  | _ => simp [storeK] at h

end
end Am

