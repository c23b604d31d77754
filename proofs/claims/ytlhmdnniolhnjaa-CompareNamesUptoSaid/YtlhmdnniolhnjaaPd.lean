/-
  Value operations on abstract states, with the condition under which they go through; soundness. Own work.
-/
import Derived.Test.YtlhmdnniolhnjaaPc
namespace Go.PL
open Go

def intOp (op : BinOp) (k : IntKind) (a b : Int) : Option (PV × Prop) :=
  match op with
  | .add => some (.t (.int k (k.wrap (a + b))), True)
  | .sub => some (.t (.int k (k.wrap (a - b))), True)
  | .mul => some (.t (.int k (k.wrap (a * b))), True)
  | .quo => some (.t (.int k (k.wrap (a.tdiv b))), b ≠ 0)
  | .rem => some (.t (.int k (a.tmod b)), b ≠ 0)
  | .eql => some (.t (.bool (a == b)), True)
  | .neq => some (.t (.bool (a != b)), True)
  | .lss => some (.t (.bool (decide (a < b))), True)
  | .leq => some (.t (.bool (decide (a ≤ b))), True)
  | .gtr => some (.t (.bool (decide (a > b))), True)
  | .geq => some (.t (.bool (decide (a ≥ b))), True)
  | _ => none

def strOp (op : BinOp) (a b : ByteArray) : Option (PV × Prop) :=
  match op with
  | .add => some (.t (.str (a ++ b)), ((a.size + b.size : Nat) : Int) ≤ 9223372036854775807)
  | .eql => some (.t (.bool (a.toList == b.toList)), True)
  | .neq => some (.t (.bool (!(a.toList == b.toList))), True)
  | .lss => some (.t (.bool (Op.bytesLess a.toList b.toList)), True)
  | _ => none

def boolOp (op : BinOp) (a b : Bool) : Option (PV × Prop) :=
  match op with
  | .eql => some (.t (.bool (a == b)), True)
  | .neq => some (.t (.bool (!(a == b))), True)
  | _ => none

def intsOf : List T → Option (List Int)
  | [] => some []
  | .int .i64 x :: l => match intsOf l with | some r => some (x :: r) | none => none
  | _ => none
def aggOp (n : Nat) (op : BinOp) (l r : List T) : Option (PV × Prop) :=
  match intsOf l, intsOf r with
  | some xs, some ys => match Nat.beq xs.length n, Nat.beq ys.length n, Nat.ble 1 n with
    | true, true, true => match op with
      | .eql => some (.t (.bool (xs == ys)), True)
      | .neq => some (.t (.bool (!(xs == ys))), True)
      | _ => none
    | _, _, _ => none
  | _, _ => none

/-- a map's entry, and where it stands -/
def mfind : List (List Int × Bool) → List Int → Nat → Option (Nat × Bool)
  | [], _, _ => none
  | e :: m, ks, i => match ks == e.1 with | true => some (i, e.2) | false => mfind m ks (i + 1)
def mget (m : List (List Int × Bool)) (ks : List Int) : Bool := match mfind m ks 0 with | some (_, b) => b | none => false
def mhas (m : List (List Int × Bool)) (ks : List Int) : Bool := (mfind m ks 0).isSome
def mset (m : List (List Int × Bool)) (ks : List Int) (b : Bool) : List (List Int × Bool) := match mfind m ks 0 with | some (i, _) => m.set i (ks, b) | none => m ++ [(ks, b)]
/-- the map that a lookup or an update speaks of, and the key -/
def mapP (I : Inf) (st : St) (t : Nat) (x k : PV) : Option (Nat × List (List Int × Bool) × Nat × List Int) :=
  match I.ti t, x, k with
  | some i, .map o, .t (.agg l) => match i.und, look st.hp o, intsOf l with
    | .mp kt et, some (.mpb n m), some ks => match I.ti kt, I.ti et with
      | some ik, some ie => match ik.und, ie.und, ie.zero, Nat.beq ik.eqn n, Nat.beq ks.length n, Nat.ble 1 n with
        | .arr _ _, .bool, [.t (.bool false)], true, true, true => some (n, m, o, ks)
        | _, _, _, _, _, _ => none
      | _, _ => none
    | _, _, _ => none
  | _, _, _ => none

def binP (i : TInf) (op : BinOp) (x y : PV) : Option (PV × Prop) :=
  match x, y with
  | .t (.int k a), .t (.int k' b) => if k = k' then intOp op k a b else none
  | .t (.str a), .t (.str b) => strOp op a b
  | .t (.agg l), .t (.agg r) => aggOp i.eqn op l r
  | .t (.bool a), .t (.bool b) => match i.und with | .bool => boolOp op a b | _ => none
  | _, _ => none

def unP (op : UnOp) (x : PV) : Option (PV × Prop) :=
  match op, x with
  | .not, .t (.bool b) => some (.t (.bool (!b)), True)
  | .neg, .t (.int k a) => some (.t (.int k (k.wrap (0 - a))), True)
  | _, _ => none

def lenP (st : St) (u : U) (x : PV) : Option PV :=
  match u, x with
  | .str, .t (.str s) => some (.t (.i s.size))
  | .sl _, .nil => some (.t (.i 0))
  | .sl _, .own o => match look st.hp o with | some (.arr _ _ n _) => some (.t (.i n)) | _ => none
  | .sl _, .t x => match x.view with | some (n, _) => some (.t (.i n)) | none => none
  | _, _ => none

def maxP : PV → PV → Option PV
  | .t (.int k a), .t (.int _ b) => some (.t (.int k (if b > a then b else a)))
  | _, _ => none
def minP : PV → PV → Option PV
  | .t (.int k a), .t (.int _ b) => some (.t (.int k (if b < a then b else a)))
  | _, _ => none

def fieldP (ti : Nat → Option TInf) (fs : List (Nat × Nat)) (f : Nat) : Option Nat :=
  match fs[f]? with
  | some (off, t) => match ti t with
    | some i => match Nat.beq i.size 0 with | true => none | false => some off
    | none => none
  | none => none

def indexP (st : St) (s : Nat) (x : PV) (i : Int) : Option (PV × Prop) :=
  match x with
  | .t x => match x.view with
    | some (n, f) => match Nat.beq (f i.toNat).length s with
      | true => some (.eptr (f i.toNat), 0 ≤ i ∧ i < (n : Int))
      | false => none
    | none => none
  | .own o => match look st.hp o with
    | some (.arr _ s' n _) => match Nat.beq s' s with
      | true => some (.aptr o s i.toNat 0, 0 ≤ i ∧ i < (n : Int))
      | false => none
    | _ => none
  | _ => none

def optInt (st : St) (d : Int) : Option Operand → Option Int
  | none => some d
  | some x => match ev st x with | some (.t (.int _ n)) => some n | _ => none

/-- cells of an element of an array of ours -/
def loadP (st : St) (i : TInf) (x : PV) : Option (PV × Prop) :=
  match x with
  | .ptr o off => match look st.hp o with
    | some (.box l) => match readAt i (l.drop off) with | some p => some (p, True) | none => none
    | _ => none
  | .eptr l => match readAt i (l.map PV.t) with | some p => some (p, True) | none => none
  | .aptr o s k off => match look st.hp o with
    | some (.arr _ s' n f) => match Nat.beq s' s with
      | true => match readAt i (((f k).drop off).map PV.t) with | some p => some (p, k < n) | none => none
      | false => none
    | _ => none
  | _ => none

def fillP (places : Nat → Option (Nat × Nat)) (cells : List PV) : List (Nat × PV) → Option (List PV)
  | [] => some cells
  | (i, x) :: rest => match places i with
    | none => none
    | some (off, size) => match Nat.beq x.cells.length size, Nat.ble (off + size) cells.length, (x.cells.all PV.one) with
      | true, true, true => fillP places (cells.take off ++ x.cells ++ cells.drop (off + size)) rest
      | _, _, _ => none

def evParts (st : St) : List (Nat × Operand) → Option (List (Nat × PV))
  | [] => some []
  | (i, x) :: l => match ev st x, evParts st l with
    | some p, some r => some ((i, p) :: r)
    | _, _ => none

def placesP (ti : Nat → Option TInf) : List (Nat × Nat) → Option (List (Nat × Nat))
  | [] => some []
  | (off, t) :: l => match ti t, placesP ti l with
    | some i, some r => some ((off, i.size) :: r)
    | _, _ => none

def buildP (I : Inf) (st : St) (t : Nat) (parts : List (Nat × Operand)) : Option PV :=
  match I.ti t, evParts st parts with
  | some i, some ps => match i.und with
    | .st fs => match placesP I.ti fs with
      | some pl => match fillP (pl[·]?) i.zero ps with | some c => some (aggOf c) | none => none
      | none => none
    | .arr _ e => match I.ti e with
      | some ie => match fillP (fun i => some (i * ie.size, ie.size)) i.zero ps with | some c => some (aggOf c) | none => none
      | none => none
    | _ => none
  | _, _ => none

def evList (st : St) : List Operand → Option (List PV)
  | [] => some []
  | x :: l => match ev st x, evList st l with
    | some p, some r => some (p :: r)
    | _, _ => none

def tr (x : Option PV) : Option (PV × Prop) := match x with | some p => some (p, True) | none => none

/-- the bytes of a row of bytes -/
def u8Of : List T → Int | [.int .u8 k] => k | _ => 0
def isU8 : List T → Bool | [.int .u8 _] => true | _ => false
def bstr (n : Nat) (f : Nat → List T) : ByteArray := ((List.range n).map fun i => u8Of (f i)).foldl (fun r n => r.push (UInt8.ofNat n.toNat)) ByteArray.empty
def rowOf (st : St) : PV → Option (Nat × (Nat → List T))
  | .own o => match look st.hp o with | some (.arr _ _ n f) => some (n, f) | _ => none
  | .t x => x.view
  | .nil => some (0, fun _ => [])
  | _ => none

def callP (I : Inf) (st : St) (c : Call) : Option (PV × Prop) :=
  match c.callee, c.args.toList, c.argTypes.toList with
  | .builtin .len, [x], [t] => match I.ti t, ev st x with
    | some i, some p => tr (lenP st i.und p)
    | _, _ => none
  | .builtin .max, [x, y], _ => match ev st x, ev st y with
    | some p, some q => tr (maxP p q)
    | _, _ => none
  | .builtin .min, [x, y], _ => match ev st x, ev st y with
    | some p, some q => tr (minP p q)
    | _, _ => none
  | _, _, _ => none

def pev (I : Inf) (st : St) : Op → Option (PV × Prop)
  | .move x | .assign x => tr (ev st x)
  | .pick c a b => match ev st c with
    | some (.t (.bool true)) => tr (ev st a)
    | some (.t (.bool false)) => tr (ev st b)
    | _ => none
  | .load t a => match I.ti t, ev st a with
    | some i, some x => loadP st i x
    | _, _ => none
  | .nilCheck x => match ev st x with
    | some (.ptr o off) => some (.ptr o off, True)
    | some (.eptr l) => some (.eptr l, True)
    | some (.aptr o s i off) => some (.aptr o s i off, True)
    | _ => none
  | .binOp op t x y _ => match I.ti t, ev st x, ev st y with
    | some i, some p, some q => binP i op p q
    | _, _, _ => none
  | .unOp op _ x => match ev st x with | some p => unP op p | none => none
  | .convert s d x => match I.ti s, I.ti d, ev st x with
    | some _, some j, some (.t (.int _ n)) => match j.und with
      | .int k => some (.t (.int k (k.wrap n)), True)
      | _ => none
    | some i, some j, some p => match i.und, j.und, rowOf st p with
      | .sl e, .str, some (n, f) => match I.ti e with
        | some k => match k.und with
          | .int .u8 => some (.t (.str (bstr n f)), ∀ i, i < n → isU8 (f i) = true)
          | _ => none
        | none => none
      | _, _, _ => none
    | _, _, _ => none
  | .makeFunc fn fs cs => match evList st (fs.toList ++ cs.toList) with | some l => some (.fn fn fs.toList.length l, True) | _ => none
  | .fieldAddr s x f => match I.ti s, ev st x with
    | some i, some p => match i.und with
      | .st fs => match fieldP I.ti fs f, p with
        | some off, .ptr o k => some (.ptr o (k + off), True)
        | some off, .eptr l => some (.eptr (l.drop off), True)
        | some off, .aptr o s i k => some (.aptr o s i (k + off), True)
        | _, _ => none
      | _ => none
    | _, _ => none
  | .field t x f => match I.ti t, ev st x with
    | some i, some p => match i.und with
      | .st fs => match fs[f]? with
        | some (off, u) => match I.ti u with
          | some j => match p with
            | .t (.agg l) => tr (readAt j ((l.drop off).map PV.t))
            | .agg l => tr (readAt j (l.drop off))
            | _ => none
          | none => none
        | none => none
      | _ => none
    | _, _ => none
  | .indexAddr t x ix => match I.ti t, ev st x, ev st ix with
    | some i, some p, some (.t (.int _ k)) => match i.und with
      | .sl e => match I.ti e with | some j => indexP st j.size p k | none => none
      | .arr n e => match I.ti e, p with | some j, .ptr o off => some (.ptr o (off + k.toNat * j.size), 0 ≤ k ∧ k < (n : Int)) | _, _ => none
      | _ => none
    | _, _, _ => none
  | .index t x ix => match I.ti t, ev st x, ev st ix with
    | some i, some (.t (.str s)), some (.t (.int _ k)) => match i.und with
      | .str => some (.t (.int .u8 ((s[k.toNat]?.getD 0).toNat : Int)), 0 ≤ k ∧ k < (s.size : Int))
      | _ => none
    | _, _, _ => none
  | .extract x i => match ev st x with | some (.tup l) => tr l[i]? | _ => none
  | .build t parts => tr (buildP I st t parts.toList)
  | .slice t x lo hi mx => match mx, I.ti t, ev st x with
    | none, some i, some (.t (.str s)) => match i.und, optInt st 0 lo, optInt st s.size hi with
      | .str, some l, some h => some (.t (.str (s.extract l.toNat h.toNat)), 0 ≤ l ∧ l ≤ h ∧ h ≤ (s.size : Int))
      | _, _, _ => none
    | none, some i, some (.t x) => match i.und, x.view with
      | .sl e, some (n, f) => match I.ti e, optInt st 0 lo, optInt st n hi with
        | some j, some l, some h => match Nat.beq (f 0).length j.size with
          | true => some (.t (.sl (h - l).toNat (fun k => f (l.toNat + k))), 0 ≤ l ∧ l ≤ h ∧ h ≤ (n : Int))
          | false => none
        | _, _, _ => none
      | _, _ => none
    | _, _, _ => none
  | .lookup t x k true => match ev st x, ev st k with
    | some p, some q => match mapP I st t p q with
      | some (_, m, _, ks) => some (.tup [.t (.bool (mget m ks)), .t (.bool (mhas m ks))], True)
      | none => none
    | _, _ => none
  | .call c => callP I st c
  | _ => none

end Go.PL
