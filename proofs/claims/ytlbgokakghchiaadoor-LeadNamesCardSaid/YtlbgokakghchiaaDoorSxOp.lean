/- DERIVED, by an AI agent: a part of the engine 'Sx' (a machine over values and numbered objects, proved sound against the model's calls): no condition. No person has read it. -/
import Derived.Test.YtlbgokakghchiaaDoorSxRead
set_option linter.all false
namespace Go.Sx
open Go Go.RowKit

/-- comparison of two values of which one is nil and the other not (or both are channels) -/
def anil (P : Program) (t : TypeId) (a b : AV) : Option Bool :=
  match P.underlying t, a, b with
  | some (.pointer _), .ptr none, .ptr (some _) => some false
  | some (.pointer _), .ptr (some _), .ptr none => some false
  | some (.slice _), .slice none _ _ _ _, .slice (some _) _ _ _ _ => some false
  | some (.slice _), .slice (some _) _ _ _ _, .slice none _ _ _ _ => some false
  | some (.map _ _), .map none, .map (some _) => some false
  | some (.map _ _), .map (some _), .map none => some false
  | some (.chan _ _), .chan none, .chan (some _) => some false
  | some (.chan _ _), .chan (some _), .chan none => some false
  | some (.func _ _ _), .nilFunc, .func _ _ _ => some false
  | some (.func _ _ _), .func _ _ _, .nilFunc => some false
  | some (.interface _), .nilIface, .iface _ _ => some false
  | some (.interface _), .iface _ _, .nilIface => some false
  | _, _, _ => none

def aneg (op : BinOp) (r : Bool) : Option AV :=
  match op with
  | .eql => some (.bool r)
  | .neq => some (.bool !r)
  | _ => none

def abound (v : Option AV) (y : Nat) : Option Nat :=
  match v with
  | some (.int _ i) => if 0 ≤ i ∧ i ≤ y then some i.toNat else none
  | _ => none

/-- the three bounds of a slice expression -/
def abounds (e : Operand → Option AV) (len cap : Nat) (lo hi mx : Option Operand) : Option (Nat × Nat × Nat) :=
  match (match mx with | some x => abound (e x) cap | none => some cap) with
  | none => none
  | some m =>
    match (match hi, mx with
      | some x, _ => abound (e x) m
      | none, none => some len
      | none, some _ => none) with
    | none => none
    | some hh =>
      match (match lo with | some x => abound (e x) hh | none => some 0) with
      | none => none
      | some l => if l ≤ m then some (l, hh, m) else none

/-- what a slice of a slice is: a part of the same row -/
def asub (size : Nat) (a : Option (Nat × Nat)) (cap : Nat) (z : Option Nat) (op : Bool) (l hh m : Nat) (full : Bool) : Option AV :=
  if op && !full then
    match a with
    | none => none
    | some (i, off) =>
      if m = l then some (.slice (some (i, off + l * size)) (hh - l) (m - l) (if l = 0 then z else some off) true)
      else some (.slice (some (i, off + l * size)) (hh - l) (m - l) none true)
  else if z.isSome then none
  else some (.slice (if m = l then a else a.map fun p => (p.1, p.2 + l * size)) (hh - l) (m - l) none false)

def asliceAt (P : Program) (e : Operand → Option AV) (t : TypeId) (x : AV) (lo hi mx : Option Operand) : Option AV :=
  match P.underlying t, x with
  | some (.array n el), .ptr (some (i, off)) =>
    match P.info? el, abounds e n n lo hi mx with
    | some inf, some (l, hh, m) => some (.slice (some (i, if m = l then off else off + l * inf.size)) (hh - l) (m - l) none false)
    | _, _ => none
  | some (.slice el), .slice a len cap z op =>
    match P.info? el, abounds e len cap lo hi mx with
    | some inf, some (l, hh, m) => if z.isSome && cap ≠ 0 then none else asub inf.size a cap z op l hh m mx.isSome
    | _, _ => none
  | _, _ => none

def aindexAt (P : Program) (t : TypeId) (x ix : AV) : Option AV :=
  match P.underlying t, x, ix with
  | some (.array n el), .ptr (some (i, off)), .int _ k =>
    match P.info? el with
    | some inf => if 0 ≤ k ∧ k < n then some (.ptr (some (i, off + k.toNat * inf.size))) else none
    | none => none
  | some (.slice el), .slice (some (i, off)) len _ none _, .int _ k =>
    match P.info? el with
    | some inf => if 0 ≤ k ∧ k < len then some (.ptr (some (i, off + k.toNat * inf.size))) else none
    | none => none
  | _, _, _ => none

def afieldAt (P : Program) (s : TypeId) (x : AV) (f : Nat) : Option AV :=
  match P.underlying s, x with
  | some (.struct fields), .ptr (some (i, off)) =>
    match fields[f]? with
    | some fd =>
      match P.info? fd.type with
      | some inf => if inf.size = 0 then none else some (.ptr (some (i, off + fd.offset)))
      | none => none
    | none => none
  | _, _ => none

def afield (P : Program) (s : TypeId) (x : AV) (f : Nat) : Option AV :=
  match P.underlying s, x with
  | some (.struct fields), .agg cs =>
    match fields[f]? with
    | some fd => apart? P fd.type cs fd.offset
    | none => none
  | _, _ => none

def aindex (P : Program) (t : TypeId) (x ix : AV) : Option AV :=
  match P.underlying t, x, ix with
  | some (.array n el), .agg cs, .int _ k =>
    match P.info? el with
    | some inf => if 0 ≤ k ∧ k < n then apart? P el cs (k.toNat * inf.size) else none
    | none => none
  | _, _, _ => none

def aparts (e : Operand → Option AV) : List (Nat × Operand) → Option (List (Nat × AV))
  | [] => some []
  | (i, x) :: r => match e x, aparts e r with
    | some v, some vs => some ((i, v) :: vs)
    | _, _ => none

def aops (e : Operand → Option AV) : List Operand → Option (List AV)
  | [] => some []
  | x :: r => match e x, aops e r with
    | some v, some vs => some (v :: vs)
    | _, _ => none

def azero (P : Program) (t : TypeId) : Option AV :=
  match P.info? t with
  | some inf => match inf.zero with
    | some v => ofV v
    | none => none
  | none => none

/-- sizes of a struct's fields -/
def aplaces (P : Program) : List Field → Option (List (Nat × Nat))
  | [] => some []
  | f :: fs => match P.info? f.type, aplaces P fs with
    | some inf, some r => some ((f.offset, inf.size) :: r)
    | _, _ => none

def abuild (P : Program) (t : TypeId) (parts : List (Nat × AV)) : Option AV :=
  match azero P t, P.underlying t with
  | some z, some (.struct fields) =>
    match aplaces P fields.toList with
    | some pl => (afill (fun i => pl[i]?) z.cells parts).map .agg
    | none => none
  | some z, some (.array _ el) =>
    match P.info? el with
    | some inf => (afill (fun i => some (i * inf.size, inf.size)) z.cells parts).map .agg
    | none => none
  | _, _ => none

def aassert (P : Program) (x : AV) (asserted : TypeId) (ok : Bool) : Option AV :=
  match P.underlying asserted with
  | none => none
  | some (.interface _) => none
  | some _ =>
    match x with
    | .iface t v =>
      if t = asserted then some (if ok then .tuple [v, .bool true] else v)
      else if ok then (azero P asserted).map fun z => .tuple [z, .bool false] else none
    | .nilIface => if ok then (azero P asserted).map fun z => .tuple [z, .bool false] else none
    | _ => none

def abytes : List AV → ByteArray → Option ByteArray
  | [], s => some s
  | .int .u8 n :: r, s => abytes r (s.push (UInt8.ofNat n.toNat))
  | _ :: _, _ => none

def aconv (P : Program) (h : AHeap) (src dst : TypeId) (x : AV) : Option AV :=
  match P.underlying src, P.underlying dst, x with
  | some (.slice e), some .string, .slice (some (i, off)) len _ none _ =>
    match P.underlying e with
    | some (.int .u8) => match cellsAt h i off len with
      | some cs => (abytes cs .empty).map .str
      | none => none
    | _ => none
  | _, _, _ => none

/-- equality of map keys: one whole number, one string, one bool, or all whole numbers -/
def akeyEq : AV → AV → Option Bool
  | .int k a, .int k' b => if k = k' then some (a == b) else none
  | .bool a, .bool b => some (a == b)
  | _, _ => none

def afind (k : AV) : List (AV × AV) → Option (Option (Nat × AV))
  | [] => some none
  | (k', v) :: es => match akeyEq k k' with
    | some true => some (some (0, v))
    | some false => match afind k es with
      | some (some (i, x)) => some (some (i + 1, x))
      | some none => some none
      | none => none
    | none => none

def isKeyD : TypeDesc → Bool
  | .int _ | .bool => true
  | _ => false

/-- a key of its type -/
def keyFits (kd : TypeDesc) (k : AV) : Bool :=
  match kd, k with
  | .int _, .int _ _ => true
  | .bool, .bool _ => true
  | _, _ => false

def alookup (P : Program) (h : AHeap) (t : TypeId) (m k : AV) (ok : Bool) : Option AV :=
  match P.underlying t with
  | some (.map kt el) =>
    match P.underlying kt, azero P el, (match m with | .map none => some [] | .map (some i) => (match h.get i with | some (.map es) => some es | _ => none) | _ => none) with
    | some kd, some z, some es =>
      if keyFits kd k then
        match afind k es with
        | some (some (_, v)) => some (if ok then .tuple [v, .bool true] else v)
        | some none => some (if ok then .tuple [z, .bool false] else z)
        | none => none
      else none
    | _, _, _ => none
  | _ => none

def alen (P : Program) (h : AHeap) (t : TypeId) (x : AV) : Option AV :=
  match P.underlying t, x with
  | some (.slice _), .slice _ n _ _ _ => some (.int .i64 n)
  | some (.array n _), _ => some (.int .i64 n)
  | some (.map _ _), .map none => some (.int .i64 0)
  | some (.chan _ _), .chan none => some (.int .i64 0)
  | some (.map _ _), .map (some i) => match h.get i with
    | some (.map es) => some (.int .i64 es.length)
    | _ => none
  | some (.chan _ _), .chan (some i) => match h.get i with
    | some (.chan _ buf) => some (.int .i64 buf.length)
    | _ => none
  | _, _ => none

def oclosed : Option AV → Bool
  | some v => v.closed
  | none => false
def oden : Option AV → Value
  | some v => v.den ρ0
  | none => undef
def isSelect : Op → Bool
  | .select .. => true
  | _ => false

/-- by the model itself, where no operand bears an id -/
def apure (P : Program) (e : Operand → Option AV) (o : Oper) : Option AV :=
  if (o.op.operands.toList.all fun x => oclosed (e x)) && !isSelect o.op then
    match prun P (execOp (fun x => oden (e x)) o) with
    | some (.value v) => ofV v
    | _ => none
  else none

def aread (P : Program) (e : Operand → Option AV) (h : AHeap) (o : Oper) : Option AV :=
  match o.op with
  | .move x | .assign x => e x
  | .pick c a b => match e c, e a, e b with
    | some (.bool t), some x, some y => some (if t then x else y)
    | _, _, _ => none
  | .load t a => match e a with
    | some (.ptr (some (i, off))) => aload P h t i off
    | _ => none
  | .nilCheck x => match e x with
    | some (.ptr (some p)) => some (.ptr (some p))
    | some (.func f a b) => some (.func f a b)
    | _ => none
  | .fieldAddr s x f => match e x with
    | some v => afieldAt P s v f
    | none => none
  | .indexAddr t x ix => match e x, e ix with
    | some v, some k => aindexAt P t v k
    | _, _ => none
  | .slice t x lo hi mx => match e x with
    | some v => match asliceAt P e t v lo hi mx with
      | some r => some r
      | none => apure P e o
    | none => none
  | .field s x f => match e x with
    | some v => afield P s v f
    | none => none
  | .index t x ix => match e x, e ix with
    | some v, some k => match aindex P t v k with
      | some r => some r
      | none => apure P e o
    | _, _ => none
  | .extract x k => match e x with
    | some (.tuple vs) => vs[k]?
    | _ => none
  | .build t parts => match aparts e parts.toList with
    | some ps => abuild P t ps
    | none => none
  | .makeInterface t x => match P.underlying t, e x with
    | some (.interface _), _ => none
    | some _, some v => some (.iface t v)
    | _, _ => none
  | .makeFunc (.func f) first captured => match aops e first.toList, aops e captured.toList with
    | some a, some b => some (.func f a b)
    | _, _ => none
  | .typeAssert x _ asserted ok => match e x with
    | some v => aassert P v asserted ok
    | none => none
  | .lookup t m k ok => match e m, e k with
    | some vm, some vk => alookup P h t vm vk ok
    | _, _ => none
  | .convert src dst x => match e x with
    | some v => match aconv P h src dst v with
      | some r => some r
      | none => apure P e o
    | none => none
  | .binOp op t x y _ => match e x, e y with
    | some a, some b => match anil P t a b with
      | some r => aneg op r
      | none => apure P e o
    | _, _ => none
  | .call { callee := .builtin .len, args, argTypes } => match argTypes[0]?, (args[0]?).bind e with
    | some t, some v => match alen P h t v with
      | some r => some r
      | none => apure P e o
    | _, _ => none
  | _ => apure P e o
end Go.Sx
