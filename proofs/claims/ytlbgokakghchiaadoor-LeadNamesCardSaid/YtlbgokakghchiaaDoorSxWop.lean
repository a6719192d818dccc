/- DERIVED, by an AI agent: a part of the engine 'Sx' (a machine over values and numbered objects, proved sound against the model's calls): no condition. No person has read it. -/
import Derived.Test.YtlbgokakghchiaaDoorSxWrite
set_option linter.all false
namespace Go.Sx
open Go Go.RowKit

/-- n times the zero's cells -/
def azeros (z : List AV) : Nat → List AV
  | 0 => []
  | n + 1 => z ++ azeros z n

/-- the first cells of a slice that is a source -/
def asource (h : AHeap) (size : Nat) (x : AV) (n : Nat) : Option (List AV) :=
  match x with
  | .slice a _ _ z _ =>
    if n = 0 then some []
    else match a, z with
      | some (i, off), none => cellsAt h i off (n * size)
      | _, _ => none
  | _ => none

def aslen : AV → Option Nat
  | .slice _ n _ _ _ => some n
  | _ => none

def aappend (P : Program) (h : AHeap) (sT xT : TypeId) (s x : AV) : Option (AV × AHeap) :=
  match P.underlying sT, P.underlying xT, s, aslen x with
  | some (.slice el), some (.slice _), .slice base len cap z op, some m =>
    match P.info? el, azero P el with
    | some inf, some zr =>
      if zr.cells.length = inf.size then
      match asource h inf.size x m with
      | none => none
      | some xs =>
        let need := len + m
        if need ≤ cap then
          if m = 0 then some (.slice base need cap z op, h)
          else match base, z with
            | some (i, off), none => match aput? h i (off + len * inf.size) xs with
              | some h' => some (.slice base need cap z op, h')
              | none => none
            | _, _ => none
        else if need ≤ 2 ^ 40 ∧ inf.bytes ≤ 2 ^ 30 ∧ need * inf.bytes ≤ 2 ^ 40 then
          match asource h inf.size s len with
          | none => none
          | some old =>
            match base, op with
            | none, _ => some (.slice (some (h.n, 0)) need need none true, h.alloc (.cells (old ++ xs) false inf.size))
            | some _, false => some (.slice (some (h.n, 0)) need need none true, h.alloc (.cells (old ++ xs) false inf.size))
            | some (i, off), true => match h.get i with
              | some (.cells c false esz) =>
                if esz = inf.size ∧ off + cap * inf.size = c.length ∧ xs.all AV.leaf = true then
                  some (.slice (some (h.n, 0)) need need none true, (h.set i .dead).alloc (.cells (old ++ xs) false inf.size))
                else none
              | _ => none
        else none
      else none
    | _, _ => none
  | _, _, _, _ => none

def acopy (P : Program) (h : AHeap) (dT : TypeId) (d x : AV) : Option (AV × AHeap) :=
  match P.underlying dT, d, aslen x with
  | some (.slice el), .slice base dLen _ z _, some m =>
    match P.info? el with
    | some inf =>
      let n := min m dLen
      match asource h inf.size x n with
      | none => none
      | some xs =>
        if n = 0 then some (.int .i64 0, h)
        else match base, z with
          | some (i, off), none => match aput? h i off xs with
            | some h' => some (.int .i64 n, h')
            | none => none
          | _, _ => none
    | none => none
  | _, _, _ => none

def amapUpdate (P : Program) (h : AHeap) (t : TypeId) (m k v : AV) : Option AHeap :=
  match P.underlying t with
  | some (.map kt _) =>
    match P.underlying kt, m with
    | some kd, .map (some i) =>
      match h.get i with
      | some (.map es) =>
        if keyFits kd k then
          match afind k es with
          | some (some (j, _)) => some (h.set i (.map (es.set j (k, v))))
          | some none => some (h.set i (.map (es ++ [(k, v)])))
          | none => none
        else none
      | _ => none
    | _, _ => none
  | _ => none

def abuildSlice (P : Program) (h : AHeap) (t : TypeId) (len : Nat) (parts : List (Nat × AV)) : Option (AV × AHeap) :=
  match P.underlying t with
  | some (.slice el) =>
    match P.info? el, azero P el with
    | some inf, some zr =>
      if zr.cells.length = inf.size ∧ len * inf.size ≤ 2 ^ 24 then
        match afill (fun i => some (i * inf.size, inf.size)) (azeros zr.cells len) parts with
        | some cs => some (.slice (some (h.n, 0)) len len none false, h.alloc (.cells cs false inf.size))
        | none => none
      else none
    | _, _ => none
  | _ => none

def amakeSlice (P : Program) (h : AHeap) (t : TypeId) (l c : AV) : Option (AV × AHeap) :=
  match P.underlying t, l, c with
  | some (.slice el), .int _ l, .int _ c =>
    match P.info? el, azero P el with
    | some inf, some zr =>
      if zr.cells.length = inf.size ∧ 0 ≤ l ∧ l ≤ c ∧ c ≤ 2 ^ 40 ∧ inf.bytes * c ≤ 2 ^ 40 then
        some (.slice (some (h.n, 0)) l.toNat c.toNat none false, h.alloc (.cells (azeros zr.cells c.toNat) false inf.size))
      else none
    | _, _ => none
  | _, _, _ => none

def amakeChan (P : Program) (h : AHeap) (t : TypeId) (s : AV) : Option (AV × AHeap) :=
  match P.underlying t, s with
  | some (.chan _ el), .int _ n =>
    match P.info? el with
    | some inf => if 0 ≤ n ∧ n ≤ 2 ^ 40 ∧ inf.bytes * n ≤ 2 ^ 40 then some (.chan (some h.n), h.alloc (.chan n.toNat [])) else none
    | none => none
  | _, _ => none

/-- operations that change or make memory: the value left, the heap behind -/
def awrite (P : Program) (e : Operand → Option AV) (h : AHeap) (o : Oper) : Option (AV × AHeap) :=
  match o.op with
  | .alloc el => match azero P el with
    | some z => some (.ptr (some (h.n, 0)), h.alloc (.cells z.cells false 1))
    | none => none
  | .box _ x => match e x with
    | some v => some (.ptr (some (h.n, 0)), h.alloc (.cells v.cells false 1))
    | none => none
  | .store t a x => match e a, e x, P.info? t with
    | some (.ptr (some (i, off))), some v, some inf =>
      if v.cells.length = inf.size then (aput? h i off v.cells).map fun h' => (.tuple [], h') else none
    | _, _, _ => none
  | .buildSlice t len parts => match aparts e parts.toList with
    | some ps => abuildSlice P h t len ps
    | none => none
  | .makeMap _ none => some (.map (some h.n), h.alloc (.map []))
  | .makeChan t s => match e s with
    | some v => amakeChan P h t v
    | none => none
  | .makeSlice t l c => match e l, e c with
    | some l, some c => amakeSlice P h t l c
    | _, _ => none
  | .mapUpdate t m k x => match e m, e k, e x with
    | some m, some k, some x => (amapUpdate P h t m k x).map fun h' => (.tuple [], h')
    | _, _, _ => none
  | .call { callee := .builtin .append, args, argTypes } =>
    match argTypes.toList, aops e args.toList with
    | [sT, xT], some [s, x] => aappend P h sT xT s x
    | _, _ => none
  | .call { callee := .builtin .copy, args, argTypes } =>
    match argTypes.toList, aops e args.toList with
    | [dT, _], some [d, x] => acopy P h dT d x
    | _, _ => none
  | _ => none
end Go.Sx
