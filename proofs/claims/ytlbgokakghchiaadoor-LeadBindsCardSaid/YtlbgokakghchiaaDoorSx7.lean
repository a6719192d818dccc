/- YtlbgokakghchiaaDoorSx7: texts of one's own, merged: SxQ1, SxQ2, SxQ3, SxQ4, SxQ5. -/
import Derived.Test.YtlbgokakghchiaaDoorSx6
set_option linter.all false
namespace Go.Sv
open Go Go.RowKit Go.Sx

abbrev AR := Option (AV × AHeap)

/-! ### what operations do, their types worked out -/
def F_mv (h : AHeap) : List AV → AR
  | [v] => some (v, h)
  | _ => none
def F_pick (h : AHeap) : List AV → AR
  | [.bool t, x, y] => some (if t then x else y, h)
  | _ => none
def F_load1 (h : AHeap) : List AV → AR
  | [.ptr (some (i, off))] => (cellAt h i off).map (·, h)
  | _ => none
def F_loadN (n : Nat) (h : AHeap) : List AV → AR
  | [.ptr (some (i, off))] => (cellsAt h i off n).map fun cs => (.agg cs, h)
  | _ => none
def F_nilc (h : AHeap) : List AV → AR
  | [.ptr (some p)] => some (.ptr (some p), h)
  | _ => none
def F_fadr (off : Nat) (h : AHeap) : List AV → AR
  | [.ptr (some (i, off0))] => some (.ptr (some (i, off0 + off)), h)
  | _ => none
def F_iadrA (n esz : Nat) (h : AHeap) : List AV → AR
  | [.ptr (some (i, off)), .int _ k] => if 0 ≤ k ∧ k < n then some (.ptr (some (i, off + k.toNat * esz)), h) else none
  | _ => none
def F_iadrS (esz : Nat) (h : AHeap) : List AV → AR
  | [.slice (some (i, off)) len _ none _, .int _ k] => if 0 ≤ k ∧ k < len then some (.ptr (some (i, off + k.toNat * esz)), h) else none
  | _ => none
def F_part1 (off : Nat) (h : AHeap) : List AV → AR
  | [.agg cs] => (cs[off]?).map (·, h)
  | _ => none
def F_partN (off n : Nat) (h : AHeap) : List AV → AR
  | [.agg cs] => some (.agg ((cs.drop off).take n), h)
  | _ => none
def F_ext (k : Nat) (h : AHeap) : List AV → AR
  | [.tuple vs] => (vs[k]?).map (·, h)
  | _ => none
def F_bin (op : BinOp) (h : AHeap) : List AV → AR
  | [.int k a, .int k' b] => (rint op k a k' b).map (·, h)
  | _ => none
def F_not (h : AHeap) : List AV → AR
  | [.bool b] => some (.bool !b, h)
  | _ => none
def F_neg (h : AHeap) : List AV → AR
  | [.int k n] => some (.int k (k.wrap (0 - n)), h)
  | _ => none
def F_toInt (k : IntKind) (h : AHeap) : List AV → AR
  | [.int _ n] => some (.int k (k.wrap n), h)
  | _ => none
def F_isnil (k : NK) (neg : Bool) (h : AHeap) : List AV → AR
  | [v] => match k, v with
    | .ptr, .ptr a => some (.bool (a.isNone != neg), h)
    | .slice, .slice a _ _ _ _ => some (.bool (a.isNone != neg), h)
    | .map, .map a => some (.bool (a.isNone != neg), h)
    | .chan, .chan a => some (.bool (a.isNone != neg), h)
    | _, _ => none
  | _ => none
def F_store (n : Nat) (h : AHeap) : List AV → AR
  | [.ptr (some (i, off)), v] => if v.cells.length = n then (aput? h i off v.cells).map fun h' => (.tuple [], h') else none
  | _ => none
def F_box (h : AHeap) : List AV → AR
  | [v] => some (.ptr (some (h.n, 0)), h.alloc (.cells v.cells false 1))
  | _ => none
def F_alloc (z : AV) (h : AHeap) : List AV → AR
  | [] => some (.ptr (some (h.n, 0)), h.alloc (.cells z.cells false 1))
  | _ => none
def F_lenS (h : AHeap) : List AV → AR
  | [.slice _ n _ _ _] => some (.int .i64 n, h)
  | _ => none
def F_lenA (n : Nat) (h : AHeap) : List AV → AR
  | [_] => some (.int .i64 n, h)
  | _ => none
def F_lenM (h : AHeap) : List AV → AR
  | [.map none] => some (.int .i64 0, h)
  | [.map (some i)] => match h.get i with
    | some (.map es) => some (.int .i64 es.length, h)
    | _ => none
  | _ => none
def F_lenC (h : AHeap) : List AV → AR
  | [.chan none] => some (.int .i64 0, h)
  | [.chan (some i)] => match h.get i with
    | some (.chan _ buf) => some (.int .i64 buf.length, h)
    | _ => none
  | _ => none
def F_max (h : AHeap) : List AV → AR
  | [.int k a, .int _ b] => some (.int k (if b > a then b else a), h)
  | [.int k a, .int _ b, .int _ c] => some (.int k (if c > (if b > a then b else a) then c else (if b > a then b else a)), h)
  | _ => none
def F_min (h : AHeap) : List AV → AR
  | [.int k a, .int _ b] => some (.int k (if b < a then b else a), h)
  | [.int k a, .int _ b, .int _ c] => some (.int k (if c < (if b < a then b else a) then c else (if b < a then b else a)), h)
  | _ => none
def F_mapU (kd : TypeDesc) (h : AHeap) : List AV → AR
  | [.map (some i), k, v] => match h.get i with
    | some (.map es) =>
      if keyFits kd k then
        match afind k es with
        | some (some (j, _)) => some (.tuple [], h.set i (.map (es.set j (k, v))))
        | some none => some (.tuple [], h.set i (.map (es ++ [(k, v)])))
        | none => none
      else none
    | _ => none
  | _ => none
def mapOf (h : AHeap) : AV → Option (List (AV × AV))
  | .map none => some []
  | .map (some i) => (match h.get i with | some (.map es) => some es | _ => none)
  | _ => none
def F_lookup (kd : TypeDesc) (z : AV) (ok : Bool) (h : AHeap) : List AV → AR
  | [m, k] =>
    match mapOf h m with
    | some es =>
      if keyFits kd k then
        match afind k es with
        | some (some (_, v)) => some (if ok then .tuple [v, .bool true] else v, h)
        | some none => some (if ok then .tuple [z, .bool false] else z, h)
        | none => none
      else none
    | none => none
  | _ => none
def F_makeMap (h : AHeap) : List AV → AR
  | [] => some (.map (some h.n), h.alloc (.map []))
  | _ => none
def F_app (size bytes : Nat) (h : AHeap) : List AV → AR
  | [.slice base len cap z op, x] => match aslen x with
    | some m => match asource h size x m with
      | none => none
      | some xs =>
        let need := len + m
        if need ≤ cap then
          if m = 0 then some (.slice base need cap z op, h)
          else match base, z with
            | some (i, off), none => match aput? h i (off + len * size) xs with
              | some h' => some (.slice base need cap z op, h')
              | none => none
            | _, _ => none
        else if need ≤ 2 ^ 40 ∧ bytes ≤ 2 ^ 30 ∧ need * bytes ≤ 2 ^ 40 then
          match asource h size (.slice base len cap z op) len with
          | none => none
          | some old =>
            match base, op with
            | none, _ => some (.slice (some (h.n, 0)) need need none true, h.alloc (.cells (old ++ xs) false size))
            | some _, false => some (.slice (some (h.n, 0)) need need none true, h.alloc (.cells (old ++ xs) false size))
            | some (i, off), true => match h.get i with
              | some (.cells c false esz) =>
                if esz = size ∧ off + cap * size = c.length ∧ xs.all AV.leaf = true then
                  some (.slice (some (h.n, 0)) need need none true, (h.set i .dead).alloc (.cells (old ++ xs) false size))
                else none
              | _ => none
        else none
    | none => none
  | _ => none
def F_copy (size : Nat) (h : AHeap) : List AV → AR
  | [.slice base dLen _ z _, x] => match aslen x with
    | some m =>
      let n := min m dLen
      match asource h size x n with
      | none => none
      | some xs =>
        if n = 0 then some (.int .i64 0, h)
        else match base, z with
          | some (i, off), none => match aput? h i off xs with
            | some h' => some (.int .i64 n, h')
            | none => none
          | _, _ => none
    | none => none
  | _ => none
/-- parts laid one behind the other; behind each, zeros -/
def bcat : List (Nat × List AV) → List AV → Option (List AV)
  | [], [] => some []
  | (n, z) :: s, v :: vs => if v.cells.length = n then (bcat s vs).map fun r => v.cells ++ (z ++ r) else none
  | _, _ => none
def F_bld (z : List AV) (s : List (Nat × List AV)) (h : AHeap) (vs : List AV) : AR :=
  (bcat s vs).map fun r => (.agg (z ++ r), h)
def F_bsl (size len : Nat) (z : List AV) (s : List (Nat × List AV)) (h : AHeap) (vs : List AV) : AR :=
  (bcat s vs).map fun r => (.slice (some (h.n, 0)) len len none false, h.alloc (.cells (z ++ r) false size))
def F_idx1 (n size : Nat) (h : AHeap) : List AV → AR
  | [.agg cs, .int _ k] => if 0 ≤ k ∧ k < n then (cs[k.toNat * size]?).map (·, h) else none
  | _ => none
def F_idxN (n size : Nat) (h : AHeap) : List AV → AR
  | [.agg cs, .int _ k] => if 0 ≤ k ∧ k < n then some (.agg ((cs.drop (k.toNat * size)).take size), h) else none
  | _ => none
def bnd (v : AV) (y : Nat) : Option Nat :=
  match v with
  | .int _ i => if 0 ≤ i ∧ i ≤ y then some i.toNat else none
  | _ => none
/-- x[lo:hi] of a slice -/
def F_slcS (size : Nat) (lo hi : Bool) (h : AHeap) : List AV → AR
  | .slice a len cap z op :: bs =>
    match lo, hi, bs with
    | false, false, [] => if z.isSome && cap ≠ 0 then none else (asub size a cap z op 0 len cap false).map (·, h)
    | true, false, [l] => match bnd l len with
      | some l => if z.isSome && cap ≠ 0 then none else if l ≤ cap then (asub size a cap z op l len cap false).map (·, h) else none
      | none => none
    | false, true, [u] => match bnd u cap with
      | some u => if z.isSome && cap ≠ 0 then none else (asub size a cap z op 0 u cap false).map (·, h)
      | none => none
    | true, true, [l, u] => match bnd u cap with
      | some u => match bnd l u with
        | some l => if z.isSome && cap ≠ 0 then none else if l ≤ cap then (asub size a cap z op l u cap false).map (·, h) else none
        | none => none
      | none => none
    | _, _, _ => none
  | _ => none
def F_slcA (n size : Nat) (lo hi : Bool) (h : AHeap) : List AV → AR
  | .ptr (some (i, off)) :: bs =>
    match lo, hi, bs with
    | false, false, [] => some (.slice (some (i, if n = 0 then off else off + 0 * size)) n n none false, h)
    | true, false, [l] => match bnd l n with
      | some l => some (.slice (some (i, if n = l then off else off + l * size)) (n - l) (n - l) none false, h)
      | none => none
    | false, true, [u] => match bnd u n with
      | some u => some (.slice (some (i, if n = 0 then off else off + 0 * size)) u n none false, h)
      | none => none
    | true, true, [l, u] => match bnd u n with
      | some u => match bnd l u with
        | some l => if l ≤ n then some (.slice (some (i, if n = l then off else off + l * size)) (u - l) (n - l) none false, h) else none
        | none => none
      | none => none
    | _, _, _ => none
  | _ => none
def F_mkf (f : FuncId) (k : Nat) (h : AHeap) (vs : List AV) : AR := some (.func f (vs.take k) (vs.drop k), h)
def F_mki (t : TypeId) (h : AHeap) : List AV → AR
  | [v] => some (.iface t v, h)
  | _ => none
def F_asr (t : TypeId) (z : AV) (ok : Bool) (h : AHeap) : List AV → AR
  | [.iface t' v] => if t' = t then some (if ok then .tuple [v, .bool true] else v, h) else if ok then some (.tuple [z, .bool false], h) else none
  | [.nilIface] => if ok then some (.tuple [z, .bool false], h) else none
  | _ => none
def F_mkc (bytes : Nat) (h : AHeap) : List AV → AR
  | [.int _ n] => if 0 ≤ n ∧ n ≤ 2 ^ 40 ∧ bytes * n ≤ 2 ^ 40 then some (.chan (some h.n), h.alloc (.chan n.toNat [])) else none
  | _ => none
def F_mks (size bytes : Nat) (z : List AV) (h : AHeap) : List AV → AR
  | [.int _ l, .int _ c] => if 0 ≤ l ∧ l ≤ c ∧ c ≤ 2 ^ 40 ∧ bytes * c ≤ 2 ^ 40 then
      some (.slice (some (h.n, 0)) l.toNat c.toNat none false, h.alloc (.cells (azeros z c.toNat) false size)) else none
  | _ => none
def F_eqB (neg : Bool) (h : AHeap) : List AV → AR
  | [.bool a, .bool b] => some (.bool ((a == b) != neg), h)
  | _ => none
def F_b2s (h : AHeap) : List AV → AR
  | [.slice (some (i, off)) len _ none _] => match cellsAt h i off len with
    | some cs => (abytes cs .empty).map fun s => (.str s, h)
    | none => none
  | [.slice none 0 _ none false] => some (.str .empty, h)
  | _ => none
def F_eqS (neg : Bool) (h : AHeap) : List AV → AR
  | [.str a, .str b] => some (.bool ((a.toList == b.toList) != neg), h)
  | _ => none
end Go.Sv
namespace Go.Sv
open Go Go.RowKit Go.Sx

/-- where the zeros stand between parts -/
def segs (place : Nat → Option (Nat × Nat)) (z : List AV) : Nat → List Nat → Option (List AV × List (Nat × List AV))
  | pos, [] => some (z.drop pos, [])
  | pos, i :: is => match place i with
    | some (off, size) =>
      if pos ≤ off ∧ off + size ≤ z.length then
        match segs place z (off + size) is with
        | some (lead, s) => some ((z.drop pos).take (off - pos), (size, lead) :: s)
        | none => none
      else none
    | none => none

theorem segs_afill (place : Nat → Option (Nat × Nat)) (z : List AV) : ∀ (is : List Nat) (pos : Nat) (lead : List AV) (s : List (Nat × List AV)) (vs : List AV) (r : List AV) (A : List AV),
    segs place z pos is = some (lead, s) → bcat s vs = some r → A.length = pos → pos ≤ z.length → afill place (A ++ z.drop pos) (is.zip vs) = some (A ++ (lead ++ r))
  | [], pos, lead, s, vs, r, A, hs, hb, hA, hz => by
    simp only [segs, Option.some.injEq, Prod.mk.injEq] at hs
    obtain ⟨rfl, rfl⟩ := hs
    cases vs with
    | nil =>
      simp only [bcat, Option.some.injEq] at hb
      subst hb
      simp [afill]
    | cons v vs => simp [bcat] at hb
  | i :: is, pos, lead, s, vs, r, A, hs, hb, hA, hz => by
    unfold segs at hs
    split at hs
    case h_2 => cases hs
    rename_i off size hp
    split at hs
    case isFalse => cases hs
    rename_i hc
    split at hs
    case h_2 => cases hs
    rename_i lead' s' hs'
    simp only [Option.some.injEq, Prod.mk.injEq] at hs
    obtain ⟨rfl, rfl⟩ := hs
    cases vs with
    | nil => simp [bcat] at hb
    | cons v vs =>
      simp only [bcat] at hb
      split at hb
      case isFalse => cases hb
      rename_i hv
      rw [Option.map_eq_some_iff] at hb
      obtain ⟨r', hb', rfl⟩ := hb
      simp only [List.zip_cons_cons, afill, hp]
      rw [if_neg (by simp [hv]; omega)]
      have e1 : (A ++ z.drop pos).take off = A ++ (z.drop pos).take (off - pos) := by
        rw [List.take_append, hA, List.take_of_length_le (by omega)]
      have e2 : (A ++ z.drop pos).drop (off + v.cells.length) = z.drop (off + size) := by
        rw [List.drop_append, hA, List.drop_of_length_le (by omega), List.nil_append, List.drop_drop]
        congr 1
        omega
      rw [e1, e2]
      have ih := segs_afill place z is (off + size) lead' s' vs r' (A ++ (z.drop pos).take (off - pos) ++ v.cells) hs' hb' (by simp [hv, hA]; omega) (by omega)
      rw [ih]
      simp [List.append_assoc]

theorem aparts_zip {e : Operand → Option AV} : ∀ (l : List (Nat × Operand)) (vs : List AV), aops e (l.map (·.2)) = some vs → aparts e l = some ((l.map (·.1)).zip vs)
  | [], vs, h => by simp only [List.map_nil, aops, Option.some.injEq] at h; subst h; rfl
  | (i, x) :: l, vs, h => by
    simp only [List.map_cons, aops] at h
    split at h
    · rename_i v vs' hv hvs
      simp only [Option.some.injEq] at h
      subst h
      simp only [aparts, hv, aparts_zip l vs' hvs, List.map_cons, List.zip_cons_cons]
    · cases h

inductive XOp where
  | op (F : AHeap → List AV → AR) (xs : List Operand)
  | callF (f : FuncId) (xs : List Operand)
  | callV (f : Operand) (xs : List Operand)

def allInt (P : Program) (ts : List TypeId) : Bool := ts.all fun t => (isInt P t).isSome

def optL : Option Operand → List Operand
  | some x => [x]
  | none => []

def xgen (P : Program) (o : Oper) : Option XOp :=
  match o.op with
  | .call { callee := .builtin .len, args := ⟨[x]⟩, argTypes := ⟨[t]⟩ } =>
    match P.underlying t with
    | some (.slice _) => some (.op F_lenS [x])
    | some (.array n _) => some (.op (F_lenA n) [x])
    | some (.map _ _) => some (.op F_lenM [x])
    | some (.chan _ _) => some (.op F_lenC [x])
    | _ => none
  | .call { callee := .builtin .append, args, argTypes := ⟨[sT, xT]⟩ } =>
    match P.underlying sT, P.underlying xT with
    | some (.slice el), some (.slice _) => match P.info? el, azero P el with
      | some inf, some zr => if zr.cells.length = inf.size then some (.op (F_app inf.size inf.bytes) args.toList) else none
      | _, _ => none
    | _, _ => none
  | .call { callee := .builtin .copy, args, argTypes := ⟨[dT, _]⟩ } =>
    match P.underlying dT with
    | some (.slice el) => match P.info? el with
      | some inf => some (.op (F_copy inf.size) args.toList)
      | none => none
    | _ => none
  | .call { callee := .value f, args, .. } => some (.callV f args.toList)
  | .mapUpdate t m k x =>
    match P.underlying t with
    | some (.map kt _) => match P.underlying kt with
      | some kd => some (.op (F_mapU kd) [m, k, x])
      | none => none
    | _ => none
  | .lookup t m k ok =>
    match P.underlying t with
    | some (.map kt el) => match P.underlying kt, azero P el with
      | some kd, some z => some (.op (F_lookup kd z ok) [m, k])
      | _, _ => none
    | _ => none
  | .makeMap _ none => some (.op F_makeMap [])
  | .makeChan t s =>
    match P.underlying t with
    | some (.chan _ el) => match P.info? el with
      | some inf => some (.op (F_mkc inf.bytes) [s])
      | none => none
    | _ => none
  | .makeSlice t l c =>
    match P.underlying t with
    | some (.slice el) => match P.info? el, azero P el with
      | some inf, some zr => if zr.cells.length = inf.size then some (.op (F_mks inf.size inf.bytes zr.cells) [l, c]) else none
      | _, _ => none
    | _ => none
  | .build t parts =>
    match azero P t, P.underlying t with
    | some z, some (.struct fields) => match aplaces P fields.toList with
      | some pl => match segs (fun i => pl[i]?) z.cells 0 (parts.toList.map (·.1)) with
        | some (lead, s) => some (.op (F_bld lead s) (parts.toList.map (·.2)))
        | none => none
      | none => none
    | some z, some (.array _ el) => match P.info? el with
      | some inf => match segs (fun i => some (i * inf.size, inf.size)) z.cells 0 (parts.toList.map (·.1)) with
        | some (lead, s) => some (.op (F_bld lead s) (parts.toList.map (·.2)))
        | none => none
      | none => none
    | _, _ => none
  | .buildSlice t len parts =>
    match P.underlying t with
    | some (.slice el) => match P.info? el, azero P el with
      | some inf, some zr => if zr.cells.length = inf.size ∧ len * inf.size ≤ 2 ^ 24 then
          match segs (fun i => some (i * inf.size, inf.size)) (azeros zr.cells len) 0 (parts.toList.map (·.1)) with
          | some (lead, s) => some (.op (F_bsl inf.size len lead s) (parts.toList.map (·.2)))
          | none => none
        else none
      | _, _ => none
    | _ => none
  | .index t x ix =>
    match P.underlying t with
    | some (.array n el) => match P.info? el, P.underlying el with
      | some inf, some d => if isAggD d then some (.op (F_idxN n inf.size) [x, ix]) else some (.op (F_idx1 n inf.size) [x, ix])
      | _, _ => none
    | _ => none
  | .field s x f =>
    match P.underlying s with
    | some (.struct fields) => match fields[f]? with
      | some fd => match P.underlying fd.type, P.info? fd.type with
        | some d, some inf => if isAggD d then some (.op (F_partN fd.offset inf.size) [x]) else some (.op (F_part1 fd.offset) [x])
        | _, _ => none
      | none => none
    | _ => none
  | .slice t x lo hi none =>
    match P.underlying t with
    | some (.array n el) => match P.info? el with
      | some inf => some (.op (F_slcA n inf.size lo.isSome hi.isSome) (x :: (optL lo ++ optL hi)))
      | none => none
    | some (.slice el) => match P.info? el with
      | some inf => some (.op (F_slcS inf.size lo.isSome hi.isSome) (x :: (optL lo ++ optL hi)))
      | none => none
    | _ => none
  | .makeFunc (.func f) first captured => some (.op (F_mkf f first.size) (first.toList ++ captured.toList))
  | .makeInterface t x =>
    match P.underlying t with
    | some (.interface _) => none
    | some _ => some (.op (F_mki t) [x])
    | none => none
  | .typeAssert x _ t ok =>
    match P.underlying t with
    | some (.interface _) => none
    | some _ => match azero P t with
      | some z => some (.op (F_asr t z ok) [x])
      | none => none
    | none => none
  | .convert src dst x =>
    match P.underlying src, P.underlying dst with
    | some (.slice e), some .string => match P.underlying e with
      | some (.int .u8) => some (.op F_b2s [x])
      | _ => none
    | _, _ => none
  | .call { callee := .builtin .max, args, argTypes } => if allInt P argTypes.toList then some (.op F_max args.toList) else none
  | .call { callee := .builtin .min, args, argTypes } => if allInt P argTypes.toList then some (.op F_min args.toList) else none
  | .binOp .eql t x y _ =>
    match P.underlying t with
    | some .bool => some (.op (F_eqB false) [x, y])
    | some .string => some (.op (F_eqS false) [x, y])
    | _ => none
  | .binOp .neq t x y _ =>
    match P.underlying t with
    | some .bool => some (.op (F_eqB true) [x, y])
    | some .string => some (.op (F_eqS true) [x, y])
    | _ => none
  | _ => none

def xsv (P : Program) (o : Oper) : Option XOp :=
  match rsv P o with
  | .mv x => some (.op F_mv [x])
  | .pick c a b => some (.op F_pick [c, a, b])
  | .load1 x => some (.op F_load1 [x])
  | .loadN n x => some (.op (F_loadN n) [x])
  | .nilc x => some (.op F_nilc [x])
  | .fadr off x => some (.op (F_fadr off) [x])
  | .iadrA n esz x ix => some (.op (F_iadrA n esz) [x, ix])
  | .iadrS esz x ix => some (.op (F_iadrS esz) [x, ix])
  | .ext x k => some (.op (F_ext k) [x])
  | .bin op x y => some (.op (F_bin op) [x, y])
  | .notB x => some (.op F_not [x])
  | .negI x => some (.op F_neg [x])
  | .toInt k x => some (.op (F_toInt k) [x])
  | .isnil k neg x => some (.op (F_isnil k neg) [x])
  | .box x => some (.op F_box [x])
  | .alloc z => some (.op (F_alloc z) [])
  | .callF f args => if acallable P f then some (.callF f args) else none
  | .gen _ => match o.op with
    | .store t a x => match P.info? t with
      | some inf => some (.op (F_store inf.size) [a, x])
      | none => none
    | _ => xgen P o
  | _ => none
end Go.Sv
namespace Go.Sv
open Go Go.RowKit Go.Sx

theorem aops0 (e : Operand → Option AV) (g : List AV → AR) : (aops e []).bind g = g [] := rfl
theorem aops1 (e : Operand → Option AV) (x : Operand) (g : List AV → AR) : (aops e [x]).bind g = (e x).bind fun v => g [v] := by
  simp only [aops]; cases e x <;> rfl
theorem aops2 (e : Operand → Option AV) (x y : Operand) (g : List AV → AR) : (aops e [x, y]).bind g = (e x).bind fun v => (e y).bind fun u => g [v, u] := by
  simp only [aops]; cases e x <;> cases e y <;> rfl
theorem aops3 (e : Operand → Option AV) (x y z : Operand) (g : List AV → AR) : (aops e [x, y, z]).bind g = (e x).bind fun v => (e y).bind fun u => (e z).bind fun q => g [v, u, q] := by
  simp only [aops]; cases e x <;> cases e y <;> cases e z <;> rfl

section
variable {P : Program} {call : CallF} {e : Operand → Option AV} {h : AHeap} {o : Oper} {r : AV × AHeap}

theorem xold_ok (he : ∀ f, e (.func f) = some (.func f [] [])) (hk : ∀ v, e (.const v) = ofV v) {q : ROp} (hq : rsv P o = q) {F : AHeap → List AV → AR} {xs : List Operand}
    (hx : (aops e xs).bind (F h) = some r → rop P call e h q = some r) (hr : (aops e xs).bind (F h) = some r) : aop P call e h o = some r :=
  rsv_ok P call e h o he hk r (by rw [hq]; exact hx hr)

theorem x_mv {x : Operand} (hr : (aops e [x]).bind (F_mv h) = some r) : rop P call e h (.mv x) = some r := by
  rw [aops1] at hr; simp only [rop]; cases hx : e x <;> simp_all [F_mv]
theorem x_pick {c a b : Operand} (hr : (aops e [c, a, b]).bind (F_pick h) = some r) : rop P call e h (.pick c a b) = some r := by
  rw [aops3] at hr; simp only [rop]
  simp only [Option.bind_eq_some_iff] at hr
  obtain ⟨v, hv, u, hu, q, hq, hr⟩ := hr
  unfold F_pick at hr
  split at hr <;> simp_all
theorem x_load1 {x : Operand} (hr : (aops e [x]).bind (F_load1 h) = some r) : rop P call e h (.load1 x) = some r := by
  rw [aops1] at hr; simp only [rop]
  simp only [Option.bind_eq_some_iff] at hr
  obtain ⟨v, hv, hr⟩ := hr
  unfold F_load1 at hr
  split at hr <;> simp_all
theorem x_loadN {n : Nat} {x : Operand} (hr : (aops e [x]).bind (F_loadN n h) = some r) : rop P call e h (.loadN n x) = some r := by
  rw [aops1] at hr; simp only [rop]
  simp only [Option.bind_eq_some_iff] at hr
  obtain ⟨v, hv, hr⟩ := hr
  unfold F_loadN at hr
  split at hr <;> simp_all
theorem x_nilc {x : Operand} (hr : (aops e [x]).bind (F_nilc h) = some r) : rop P call e h (.nilc x) = some r := by
  rw [aops1] at hr; simp only [rop]
  simp only [Option.bind_eq_some_iff] at hr
  obtain ⟨v, hv, hr⟩ := hr
  unfold F_nilc at hr
  split at hr <;> simp_all
theorem x_fadr {n : Nat} {x : Operand} (hr : (aops e [x]).bind (F_fadr n h) = some r) : rop P call e h (.fadr n x) = some r := by
  rw [aops1] at hr; simp only [rop]
  simp only [Option.bind_eq_some_iff] at hr
  obtain ⟨v, hv, hr⟩ := hr
  unfold F_fadr at hr
  split at hr <;> simp_all
theorem x_iadrA {n m : Nat} {x y : Operand} (hr : (aops e [x, y]).bind (F_iadrA n m h) = some r) : rop P call e h (.iadrA n m x y) = some r := by
  rw [aops2] at hr; simp only [rop]
  simp only [Option.bind_eq_some_iff] at hr
  obtain ⟨v, hv, u, hu, hr⟩ := hr
  unfold F_iadrA at hr
  split at hr <;> simp_all
theorem x_iadrS {m : Nat} {x y : Operand} (hr : (aops e [x, y]).bind (F_iadrS m h) = some r) : rop P call e h (.iadrS m x y) = some r := by
  rw [aops2] at hr; simp only [rop]
  simp only [Option.bind_eq_some_iff] at hr
  obtain ⟨v, hv, u, hu, hr⟩ := hr
  unfold F_iadrS at hr
  split at hr <;> simp_all
theorem x_ext {n : Nat} {x : Operand} (hr : (aops e [x]).bind (F_ext n h) = some r) : rop P call e h (.ext x n) = some r := by
  rw [aops1] at hr; simp only [rop]
  simp only [Option.bind_eq_some_iff] at hr
  obtain ⟨v, hv, hr⟩ := hr
  unfold F_ext at hr
  split at hr <;> simp_all
theorem x_bin {op : BinOp} {x y : Operand} (hr : (aops e [x, y]).bind (F_bin op h) = some r) : rop P call e h (.bin op x y) = some r := by
  rw [aops2] at hr; simp only [rop]
  simp only [Option.bind_eq_some_iff] at hr
  obtain ⟨v, hv, u, hu, hr⟩ := hr
  unfold F_bin at hr
  split at hr <;> simp_all
theorem x_not {x : Operand} (hr : (aops e [x]).bind (F_not h) = some r) : rop P call e h (.notB x) = some r := by
  rw [aops1] at hr; simp only [rop]
  simp only [Option.bind_eq_some_iff] at hr
  obtain ⟨v, hv, hr⟩ := hr
  unfold F_not at hr
  split at hr <;> simp_all
theorem x_neg {x : Operand} (hr : (aops e [x]).bind (F_neg h) = some r) : rop P call e h (.negI x) = some r := by
  rw [aops1] at hr; simp only [rop]
  simp only [Option.bind_eq_some_iff] at hr
  obtain ⟨v, hv, hr⟩ := hr
  unfold F_neg at hr
  split at hr <;> simp_all
theorem x_toInt {k : IntKind} {x : Operand} (hr : (aops e [x]).bind (F_toInt k h) = some r) : rop P call e h (.toInt k x) = some r := by
  rw [aops1] at hr; simp only [rop]
  simp only [Option.bind_eq_some_iff] at hr
  obtain ⟨v, hv, hr⟩ := hr
  unfold F_toInt at hr
  split at hr <;> simp_all
theorem x_isnil {k : NK} {neg : Bool} {x : Operand} (hr : (aops e [x]).bind (F_isnil k neg h) = some r) : rop P call e h (.isnil k neg x) = some r := by
  rw [aops1] at hr; simp only [rop]
  simp only [Option.bind_eq_some_iff] at hr
  obtain ⟨v, hv, hr⟩ := hr
  simp only [F_isnil] at hr
  split at hr <;> simp_all
theorem x_box {x : Operand} (hr : (aops e [x]).bind (F_box h) = some r) : rop P call e h (.box x) = some r := by
  rw [aops1] at hr; simp only [rop]; cases hx : e x <;> simp_all [F_box]
theorem x_alloc {z : AV} (hr : (aops e []).bind (F_alloc z h) = some r) : rop P call e h (.alloc z) = some r := by
  simpa [aops, F_alloc, rop] using hr

/-- by what is read -/
theorem x_read (h1 : isAl o.op = false) (h2 : isEffOp o.op = false) {v : AV} (hv : aread P e h o = some v) (hr : some (v, h) = some r) : aop P call e h o = some r := by
  unfold aop
  rw [h1, h2, hv]
  simpa using hr
theorem x_write (h12 : isAl o.op = true ∨ isEffOp o.op = true) (hr : aeff P call e h o = some r) : aop P call e h o = some r := by
  unfold aop
  rw [if_pos (by rcases h12 with h | h <;> simp [h])]
  exact hr

theorem abound_bnd {v : AV} {y : Nat} : abound (some v) y = bnd v y := by
  unfold abound bnd
  cases v <;> rfl

theorem prun_mm {P : Program} {s : Sem Value} {v : Value} (h : prun P s = some v) : prun P (do let x ← s; pure (Next.value x)) = some (.value v) := by
  refine (prun_bind _ _ h).trans rfl
end
end Go.Sv
namespace Go.Sv
open Go Go.RowKit Go.Sx

section
variable {P : Program} {call : CallF} {e : Operand → Option AV} {h : AHeap} {r : AV × AHeap} {dst : Option Tmp} {type : TypeId} {pos : String} {after : Array Edge} {guard : Option (Nat × Bool)}

theorem g_len {x : Operand} {t : TypeId} {F : AHeap → List AV → AR} {d : TypeDesc} (hu : P.underlying t = some d)
    (hF : (match d with | .slice _ => some F_lenS | .array n _ => some (F_lenA n) | .map _ _ => some F_lenM | .chan _ _ => some F_lenC | _ => none) = some F)
    (hr : (aops e [x]).bind (F h) = some r) : aop P call e h { dst, op := .call { callee := .builtin .len, args := ⟨[x]⟩, argTypes := ⟨[t]⟩ }, type, pos, after, guard } = some r := by
  rw [aops1, Option.bind_eq_some_iff] at hr
  obtain ⟨v, hv, hr⟩ := hr
  have key : ∀ n : Nat, alen P h t v = some (.int .i64 n) → some (AV.int .i64 n, h) = some r → aop P call e h { dst, op := .call { callee := .builtin .len, args := ⟨[x]⟩, argTypes := ⟨[t]⟩ }, type, pos, after, guard } = some r := by
    intro n hl hq
    refine x_read rfl rfl (v := .int .i64 n) ?_ hq
    simp [aread, hv, hl]
  cases d <;> simp only [Option.some.injEq, reduceCtorEq] at hF
  all_goals subst hF
  · unfold F_lenS at hr
    split at hr
    · rename_i n c z o hq; simp at hq; subst hq; exact key _ (by simp [alen, hu]) hr
    · cases hr
  · simp only [F_lenA] at hr
    exact key _ (by simp [alen, hu]) hr
  · unfold F_lenM at hr
    split at hr
    · rename_i hq; simp at hq; subst hq; exact key 0 (by simp [alen, hu]) hr
    · rename_i i hq; simp at hq; subst hq
      split at hr
      · rename_i es hes; exact key _ (by simp [alen, hu, hes]) hr
      · cases hr
    · cases hr
  · unfold F_lenC at hr
    split at hr
    · rename_i hq; simp at hq; subst hq; exact key 0 (by simp [alen, hu]) hr
    · rename_i i hq; simp at hq; subst hq
      split at hr
      · rename_i es hes; exact key _ (by simp [alen, hu, hes]) hr
      · cases hr
    · cases hr

theorem aops_len {e : Operand → Option AV} : ∀ {l : List Operand} {vs : List AV}, aops e l = some vs → vs.length = l.length
  | [], vs, h => by simp only [aops, Option.some.injEq] at h; subst h; rfl
  | x :: l, vs, h => by
    simp only [aops] at h
    split at h
    · rename_i v vs' hv hvs
      simp only [Option.some.injEq] at h
      subst h
      simp [aops_len hvs]
    · cases h

theorem g_app {args : Array Operand} {sT xT el el2 : TypeId} {inf : TypeInfo} {zr : AV} (h1 : P.underlying sT = some (.slice el)) (h2 : P.underlying xT = some (.slice el2)) (h3 : P.info? el = some inf) (h4 : azero P el = some zr) (h5 : zr.cells.length = inf.size)
    (hr : (aops e args.toList).bind (F_app inf.size inf.bytes h) = some r) : aop P call e h { dst, op := .call { callee := .builtin .append, args, argTypes := ⟨[sT, xT]⟩ }, type, pos, after, guard } = some r := by
  refine x_write (.inr rfl) ?_
  rw [Option.bind_eq_some_iff] at hr
  obtain ⟨vs, hvs, hr⟩ := hr
  match vs, hr with
  | [.slice base len cap z op, x], hr =>
    simp only [aeff, awrite, hvs, aappend, h1, h2]
    simp only [F_app] at hr
    cases hm : aslen x with
    | none => rw [hm] at hr; cases hr
    | some m =>
      rw [hm] at hr
      simp only [h3, h4, h5, if_true]
      exact hr

theorem g_copy {args : Array Operand} {dT t2 el : TypeId} {inf : TypeInfo} (h1 : P.underlying dT = some (.slice el)) (h3 : P.info? el = some inf)
    (hr : (aops e args.toList).bind (F_copy inf.size h) = some r) : aop P call e h { dst, op := .call { callee := .builtin .copy, args, argTypes := ⟨[dT, t2]⟩ }, type, pos, after, guard } = some r := by
  refine x_write (.inr rfl) ?_
  rw [Option.bind_eq_some_iff] at hr
  obtain ⟨vs, hvs, hr⟩ := hr
  match vs, hr with
  | [.slice base len cap z op, x], hr =>
    simp only [aeff, awrite, hvs, acopy, h1]
    simp only [F_copy] at hr
    cases hm : aslen x with
    | none => rw [hm] at hr; cases hr
    | some m =>
      rw [hm] at hr
      simp only [h3]
      exact hr

theorem g_mapU {t kt el : TypeId} {kd : TypeDesc} {m k x : Operand} (h1 : P.underlying t = some (.map kt el)) (h2 : P.underlying kt = some kd)
    (hr : (aops e [m, k, x]).bind (F_mapU kd h) = some r) : aop P call e h { dst, op := .mapUpdate t m k x, type, pos, after, guard } = some r := by
  refine x_write (.inr rfl) ?_
  rw [aops3] at hr
  simp only [Option.bind_eq_some_iff] at hr
  obtain ⟨vm, hm, vk, hk, vx, hx, hr⟩ := hr
  unfold F_mapU at hr
  split at hr
  · rename_i i k' v' hq
    simp only [List.cons.injEq, and_true] at hq
    obtain ⟨rfl, rfl, rfl⟩ := hq
    simp only [aeff, awrite, hm, hk, hx, amapUpdate, h1, h2]
    split at hr
    · rename_i es hes
      simp only [hes]
      split at hr
      · rename_i hkf
        simp only [hkf, if_true]
        split at hr
        · rename_i j y hf; simp only [hf]; exact hr
        · rename_i hf; simp only [hf]; exact hr
        · cases hr
      · cases hr
    · cases hr
  · cases hr

theorem g_lookup {t kt el : TypeId} {kd : TypeDesc} {z : AV} {ok : Bool} {m k : Operand} (h1 : P.underlying t = some (.map kt el)) (h2 : P.underlying kt = some kd) (h3 : azero P el = some z)
    (hr : (aops e [m, k]).bind (F_lookup kd z ok h) = some r) : aop P call e h { dst, op := .lookup t m k ok, type, pos, after, guard } = some r := by
  rw [aops2] at hr
  simp only [Option.bind_eq_some_iff] at hr
  obtain ⟨vm, hm, vk, hk, hr⟩ := hr
  simp only [F_lookup] at hr
  cases hes : mapOf h vm with
  | none => rw [hes] at hr; cases hr
  | some es =>
    rw [hes] at hr
    simp only at hr
    have hal : alookup P h t vm vk ok = (if keyFits kd vk then
        match afind vk es with
        | some (some (_, v)) => some (if ok then .tuple [v, .bool true] else v)
        | some none => some (if ok then .tuple [z, .bool false] else z)
        | none => none
      else none) := by
      unfold mapOf at hes
      unfold alookup
      simp only [h1, h2, h3]
      split at hes
      · simp only [Option.some.injEq] at hes; subst hes; rfl
      · rename_i i
        split at hes
        · rename_i es' hg
          simp only [Option.some.injEq] at hes; subst hes
          simp only [hg] <;> rfl
        · cases hes
      · cases hes
    split at hr
    · rename_i hkf
      split at hr
      · rename_i j v hf
        refine x_read rfl rfl ?_ hr
        simp only [aread, hm, hk, hal, hkf, if_true, hf]
      · rename_i hf
        refine x_read rfl rfl ?_ hr
        simp only [aread, hm, hk, hal, hkf, if_true, hf]
      · cases hr
    · cases hr

theorem g_makeMap {t : TypeId} (hr : (aops e []).bind (F_makeMap h) = some r) : aop P call e h { dst, op := .makeMap t none, type, pos, after, guard } = some r := by
  refine x_write (.inr rfl) ?_
  simpa [aops, F_makeMap, aeff, awrite] using hr
theorem g_makeChan {t el : TypeId} {d : ChanDir} {inf : TypeInfo} {s : Operand} (h1 : P.underlying t = some (.chan d el)) (h2 : P.info? el = some inf)
    (hr : (aops e [s]).bind (F_mkc inf.bytes h) = some r) : aop P call e h { dst, op := .makeChan t s, type, pos, after, guard } = some r := by
  refine x_write (.inr rfl) ?_
  rw [aops1, Option.bind_eq_some_iff] at hr
  obtain ⟨v, hv, hr⟩ := hr
  unfold F_mkc at hr
  split at hr
  · rename_i k n hq
    simp only [List.cons.injEq, and_true] at hq
    subst hq
    simp only [aeff, awrite, hv, amakeChan, h1, h2]
    exact hr
  · cases hr
theorem g_makeSlice {t el : TypeId} {inf : TypeInfo} {zr : AV} {l c : Operand} (h1 : P.underlying t = some (.slice el)) (h2 : P.info? el = some inf) (h3 : azero P el = some zr) (h4 : zr.cells.length = inf.size)
    (hr : (aops e [l, c]).bind (F_mks inf.size inf.bytes zr.cells h) = some r) : aop P call e h { dst, op := .makeSlice t l c, type, pos, after, guard } = some r := by
  refine x_write (.inr rfl) ?_
  rw [aops2] at hr
  simp only [Option.bind_eq_some_iff] at hr
  obtain ⟨vl, hl, vc, hc, hr⟩ := hr
  unfold F_mks at hr
  split at hr
  · rename_i k n k' n' hq
    simp only [List.cons.injEq, and_true] at hq
    obtain ⟨rfl, rfl⟩ := hq
    simp only [aeff, awrite, hl, hc, amakeSlice, h1, h2, h3, h4, true_and]
    exact hr
  · cases hr

theorem bcat_len : ∀ {s : List (Nat × List AV)} {vs : List AV} {r : List AV}, bcat s vs = some r → vs.length = s.length
  | [], [], _, _ => rfl
  | [], _ :: _, _, h => by simp [bcat] at h
  | _ :: _, [], _, h => by simp [bcat] at h
  | (n, z) :: s, v :: vs, r, h => by
    simp only [bcat] at h
    split at h
    · rw [Option.map_eq_some_iff] at h
      obtain ⟨r', h', _⟩ := h
      simp [bcat_len h']
    · cases h

theorem g_build {t : TypeId} {parts : Array (Nat × Operand)} {place : Nat → Option (Nat × Nat)} {z : AV} {lead : List AV} {s : List (Nat × List AV)}
    (hb : ∀ ps, abuild P t ps = (afill place z.cells ps).map .agg) (hs : segs place z.cells 0 (parts.toList.map (·.1)) = some (lead, s))
    (hr : (aops e (parts.toList.map (·.2))).bind (F_bld lead s h) = some r) : aop P call e h { dst, op := .build t parts, type, pos, after, guard } = some r := by
  rw [Option.bind_eq_some_iff] at hr
  obtain ⟨vs, hvs, hr⟩ := hr
  simp only [F_bld, Option.map_eq_some_iff] at hr
  obtain ⟨c, hc, hr⟩ := hr
  have := segs_afill place z.cells _ 0 lead s vs c [] hs hc rfl (Nat.zero_le _)
  simp only [List.drop_zero, List.nil_append] at this
  refine x_read rfl rfl (v := .agg (lead ++ c)) ?_ (by rw [hr])
  simp only [aread, aparts_zip _ _ hvs, hb, this, Option.map_some]

theorem g_buildSlice {t el : TypeId} {len : Nat} {parts : Array (Nat × Operand)} {inf : TypeInfo} {zr : AV} {lead : List AV} {s : List (Nat × List AV)}
    (h1 : P.underlying t = some (.slice el)) (h2 : P.info? el = some inf) (h3 : azero P el = some zr) (h4 : zr.cells.length = inf.size ∧ len * inf.size ≤ 2 ^ 24)
    (hs : segs (fun i => some (i * inf.size, inf.size)) (azeros zr.cells len) 0 (parts.toList.map (·.1)) = some (lead, s))
    (hr : (aops e (parts.toList.map (·.2))).bind (F_bsl inf.size len lead s h) = some r) : aop P call e h { dst, op := .buildSlice t len parts, type, pos, after, guard } = some r := by
  refine x_write (.inl rfl) ?_
  rw [Option.bind_eq_some_iff] at hr
  obtain ⟨vs, hvs, hr⟩ := hr
  simp only [F_bsl, Option.map_eq_some_iff] at hr
  obtain ⟨c, hc, hr⟩ := hr
  have := segs_afill _ _ _ 0 lead s vs c [] hs hc rfl (Nat.zero_le _)
  simp only [List.drop_zero, List.nil_append] at this
  simp only [aeff, awrite, aparts_zip _ _ hvs, abuildSlice, h1, h2, h3]
  rw [if_pos h4, this]
  simpa using hr

theorem g_index {t el : TypeId} {n : Nat} {inf : TypeInfo} {d : TypeDesc} {x ix : Operand} (h1 : P.underlying t = some (.array n el)) (h2 : P.info? el = some inf) (h3 : P.underlying el = some d)
    {F : AHeap → List AV → AR} (hF : (if isAggD d then F_idxN n inf.size else F_idx1 n inf.size) = F)
    (hr : (aops e [x, ix]).bind (F h) = some r) : aop P call e h { dst, op := .index t x ix, type, pos, after, guard } = some r := by
  rw [aops2] at hr
  simp only [Option.bind_eq_some_iff] at hr
  obtain ⟨vx, hx, vi, hi, hr⟩ := hr
  subst hF
  split at hr
  · rename_i ha
    unfold F_idxN at hr
    split at hr
    · rename_i cs k n' hq
      simp only [List.cons.injEq, and_true] at hq
      obtain ⟨rfl, rfl⟩ := hq
      split at hr
      · rename_i hb
        refine x_read rfl rfl ?_ hr
        simp only [aread, hx, hi, aindex, h1, h2, hb, apart?, h3, ha, and_self, if_true]
      · cases hr
    · cases hr
  · rename_i ha
    unfold F_idx1 at hr
    split at hr
    · rename_i cs k n' hq
      simp only [List.cons.injEq, and_true] at hq
      obtain ⟨rfl, rfl⟩ := hq
      split at hr
      · rename_i hb
        rw [Option.map_eq_some_iff] at hr
        obtain ⟨v, hv, hr⟩ := hr
        refine x_read (v := v) rfl rfl ?_ (by rw [hr])
        simp [aread, hx, hi, aindex, h1, h2, hb, apart?, h3, ha, hv]
      · cases hr
    · cases hr

theorem g_field {s : TypeId} {fields : Array Field} {f : Nat} {fd : Field} {inf : TypeInfo} {d : TypeDesc} {x : Operand} (h1 : P.underlying s = some (.struct fields)) (h0 : fields[f]? = some fd) (h2 : P.info? fd.type = some inf) (h3 : P.underlying fd.type = some d)
    {F : AHeap → List AV → AR} (hF : (if isAggD d then F_partN fd.offset inf.size else F_part1 fd.offset) = F)
    (hr : (aops e [x]).bind (F h) = some r) : aop P call e h { dst, op := .field s x f, type, pos, after, guard } = some r := by
  rw [aops1] at hr
  simp only [Option.bind_eq_some_iff] at hr
  obtain ⟨vx, hx, hr⟩ := hr
  subst hF
  split at hr
  · rename_i ha
    unfold F_partN at hr
    split at hr
    · rename_i cs hq
      simp only [List.cons.injEq, and_true] at hq
      subst hq
      refine x_read rfl rfl ?_ hr
      simp only [aread, hx, afield, h1, h0, apart?, h2, h3, ha, if_true]
    · cases hr
  · rename_i ha
    unfold F_part1 at hr
    split at hr
    · rename_i cs hq
      simp only [List.cons.injEq, and_true] at hq
      subst hq
      rw [Option.map_eq_some_iff] at hr
      obtain ⟨v, hv, hr⟩ := hr
      refine x_read (v := v) rfl rfl ?_ (by rw [hr])
      simp [aread, hx, afield, h1, h0, apart?, h2, h3, ha, hv]
    · cases hr
end
end Go.Sv
namespace Go.Sv
open Go Go.RowKit Go.Sx

section
variable {P : Program} {call : CallF} {e : Operand → Option AV} {h : AHeap} {r : AV × AHeap} {dst : Option Tmp} {type : TypeId} {pos : String} {after : Array Edge} {guard : Option (Nat × Bool)}

theorem ab00 (len cap : Nat) : abounds e len cap none none none = some (0, len, cap) := (show abounds e len cap none none none = if 0 ≤ cap then some (0, len, cap) else none from rfl).trans (if_pos (Nat.zero_le _))
theorem ab01 {len cap u' : Nat} {u : Operand} (hu : abound (e u) cap = some u') : abounds e len cap none (some u) none = some (0, u', cap) := by
  have : abounds e len cap none (some u) none = match abound (e u) cap with | none => none | some hh => if 0 ≤ cap then some (0, hh, cap) else none := rfl
  rw [this, hu]; simp
theorem ab10 {len cap l' : Nat} {l : Operand} (hl : abound (e l) len = some l') (hc : l' ≤ cap) : abounds e len cap (some l) none none = some (l', len, cap) := by
  have : abounds e len cap (some l) none none = match abound (e l) len with | none => none | some l => if l ≤ cap then some (l, len, cap) else none := rfl
  rw [this, hl]; simp [hc]
theorem ab11 {len cap l' u' : Nat} {l u : Operand} (hu : abound (e u) cap = some u') (hl : abound (e l) u' = some l') (hc : l' ≤ cap) : abounds e len cap (some l) (some u) none = some (l', u', cap) := by
  have : abounds e len cap (some l) (some u) none = match abound (e u) cap with | none => none | some hh => match abound (e l) hh with | none => none | some l => if l ≤ cap then some (l, hh, cap) else none := rfl
  rw [this, hu]; simp [hl, hc]

theorem g_sliceS {t el : TypeId} {inf : TypeInfo} {x : Operand} {lo hi : Option Operand} (h1 : P.underlying t = some (.slice el)) (h2 : P.info? el = some inf)
    (hr : (aops e (x :: (optL lo ++ optL hi))).bind (F_slcS inf.size lo.isSome hi.isSome h) = some r) : aop P call e h { dst, op := .slice t x lo hi none, type, pos, after, guard } = some r := by
  have fin : ∀ vx v, e x = some vx → asliceAt P e t vx lo hi none = some v → some (v, h) = some r → aop P call e h { dst, op := .slice t x lo hi none, type, pos, after, guard } = some r := by
    intro vx v hx ha hq
    exact x_read rfl rfl (by simp only [aread, hx, ha]) hq
  rw [Option.bind_eq_some_iff] at hr
  obtain ⟨vs, hvs, hr⟩ := hr
  cases lo <;> cases hi <;> simp only [optL, List.nil_append, List.cons_append, aops, Option.isSome_none, Option.isSome_some] at hvs hr
  · cases hx : e x with
    | none => simp [hx] at hvs
    | some vx =>
      simp only [hx, Option.some.injEq] at hvs
      subst hvs
      unfold F_slcS at hr
      split at hr
      · rename_i a len cap z op bs hq
        simp only [List.cons.injEq] at hq
        obtain ⟨rfl, rfl⟩ := hq
        simp only at hr
        split at hr
        · cases hr
        · rename_i hz
          rw [Option.map_eq_some_iff] at hr
          obtain ⟨v, hv, hr⟩ := hr
          refine fin _ v hx ?_ (by rw [hr])
          simp only [asliceAt, h1, h2, ab00]
          rw [if_neg hz]
          exact hv
      · cases hr
  · rename_i u
    cases hx : e x with
    | none => simp [hx] at hvs
    | some vx =>
      cases hu : e u with
      | none => simp [hx, hu] at hvs
      | some vu =>
        simp only [hx, hu, Option.some.injEq] at hvs
        subst hvs
        unfold F_slcS at hr
        split at hr
        · rename_i a len cap z op bs hq
          simp only [List.cons.injEq] at hq
          obtain ⟨rfl, rfl⟩ := hq
          simp only at hr
          split at hr
          · rename_i u' hbu
            split at hr
            · cases hr
            · rename_i hz
              rw [Option.map_eq_some_iff] at hr
              obtain ⟨v, hv, hr⟩ := hr
              refine fin _ v hx ?_ (by rw [hr])
              simp only [asliceAt, h1, h2, ab01 (e := e) (len := len) (u := u) (by rw [hu, abound_bnd]; exact hbu)]
              rw [if_neg hz]
              exact hv
          · cases hr
        · cases hr
  · rename_i l
    cases hx : e x with
    | none => simp [hx] at hvs
    | some vx =>
      cases hl : e l with
      | none => simp [hx, hl] at hvs
      | some vl =>
        simp only [hx, hl, Option.some.injEq] at hvs
        subst hvs
        unfold F_slcS at hr
        split at hr
        · rename_i a len cap z op bs hq
          simp only [List.cons.injEq] at hq
          obtain ⟨rfl, rfl⟩ := hq
          simp only at hr
          split at hr
          · rename_i l' hbl
            split at hr
            · cases hr
            · rename_i hz
              split at hr
              · rename_i hlc
                rw [Option.map_eq_some_iff] at hr
                obtain ⟨v, hv, hr⟩ := hr
                refine fin _ v hx ?_ (by rw [hr])
                simp only [asliceAt, h1, h2, ab10 (e := e) (l := l) (by rw [hl, abound_bnd]; exact hbl) hlc]
                rw [if_neg hz]
                exact hv
              · cases hr
          · cases hr
        · cases hr
  · rename_i l u
    cases hx : e x with
    | none => simp [hx] at hvs
    | some vx =>
      cases hl : e l with
      | none => simp [hx, hl] at hvs
      | some vl =>
        cases hu : e u with
        | none => simp [hx, hl, hu] at hvs
        | some vu =>
          simp only [hx, hl, hu, Option.some.injEq] at hvs
          subst hvs
          unfold F_slcS at hr
          split at hr
          · rename_i a len cap z op bs hq
            simp only [List.cons.injEq] at hq
            obtain ⟨rfl, rfl⟩ := hq
            simp only at hr
            split at hr
            · rename_i u' hbu
              split at hr
              · rename_i l' hbl
                split at hr
                · cases hr
                · rename_i hz
                  split at hr
                  · rename_i hlc
                    rw [Option.map_eq_some_iff] at hr
                    obtain ⟨v, hv, hr⟩ := hr
                    refine fin _ v hx ?_ (by rw [hr])
                    simp only [asliceAt, h1, h2, ab11 (e := e) (len := len) (l := l) (u := u) (by rw [hu, abound_bnd]; exact hbu) (by rw [hl, abound_bnd]; exact hbl) hlc]
                    rw [if_neg hz]
                    exact hv
                  · cases hr
              · cases hr
            · cases hr
          · cases hr

theorem g_sliceA {t el : TypeId} {n : Nat} {inf : TypeInfo} {x : Operand} {lo hi : Option Operand} (h1 : P.underlying t = some (.array n el)) (h2 : P.info? el = some inf)
    (hr : (aops e (x :: (optL lo ++ optL hi))).bind (F_slcA n inf.size lo.isSome hi.isSome h) = some r) : aop P call e h { dst, op := .slice t x lo hi none, type, pos, after, guard } = some r := by
  have fin : ∀ vx v, e x = some vx → asliceAt P e t vx lo hi none = some v → some (v, h) = some r → aop P call e h { dst, op := .slice t x lo hi none, type, pos, after, guard } = some r := by
    intro vx v hx ha hq
    exact x_read rfl rfl (by simp only [aread, hx, ha]) hq
  have bndle : ∀ {v : AV} {y l : Nat}, bnd v y = some l → l ≤ y := by
    intro v y l hb
    unfold bnd at hb
    split at hb
    · split at hb
      · simp only [Option.some.injEq] at hb; omega
      · cases hb
    · cases hb
  rw [Option.bind_eq_some_iff] at hr
  obtain ⟨vs, hvs, hr⟩ := hr
  cases lo <;> cases hi <;> simp only [optL, List.nil_append, List.cons_append, aops, Option.isSome_none, Option.isSome_some] at hvs hr
  · cases hx : e x with
    | none => simp [hx] at hvs
    | some vx =>
      simp only [hx, Option.some.injEq] at hvs
      subst hvs
      unfold F_slcA at hr
      split at hr
      · rename_i i off bs hq
        simp only [List.cons.injEq] at hq
        obtain ⟨rfl, rfl⟩ := hq
        simp only at hr
        refine fin _ _ hx ?_ hr
        simp only [asliceAt, h1, h2, ab00, Nat.sub_zero]
      · cases hr
  · rename_i u
    cases hx : e x with
    | none => simp [hx] at hvs
    | some vx =>
      cases hu : e u with
      | none => simp [hx, hu] at hvs
      | some vu =>
        simp only [hx, hu, Option.some.injEq] at hvs
        subst hvs
        unfold F_slcA at hr
        split at hr
        · rename_i i off bs hq
          simp only [List.cons.injEq] at hq
          obtain ⟨rfl, rfl⟩ := hq
          simp only at hr
          split at hr
          · rename_i u' hbu
            refine fin _ _ hx ?_ hr
            simp only [asliceAt, h1, h2, ab01 (e := e) (len := n) (u := u) (by rw [hu, abound_bnd]; exact hbu), Nat.sub_zero]
          · cases hr
        · cases hr
  · rename_i l
    cases hx : e x with
    | none => simp [hx] at hvs
    | some vx =>
      cases hl : e l with
      | none => simp [hx, hl] at hvs
      | some vl =>
        simp only [hx, hl, Option.some.injEq] at hvs
        subst hvs
        unfold F_slcA at hr
        split at hr
        · rename_i i off bs hq
          simp only [List.cons.injEq] at hq
          obtain ⟨rfl, rfl⟩ := hq
          simp only at hr
          split at hr
          · rename_i l' hbl
            refine fin _ _ hx ?_ hr
            simp only [asliceAt, h1, h2, ab10 (e := e) (l := l) (by rw [hl, abound_bnd]; exact hbl) (bndle hbl)]
          · cases hr
        · cases hr
  · rename_i l u
    cases hx : e x with
    | none => simp [hx] at hvs
    | some vx =>
      cases hl : e l with
      | none => simp [hx, hl] at hvs
      | some vl =>
        cases hu : e u with
        | none => simp [hx, hl, hu] at hvs
        | some vu =>
          simp only [hx, hl, hu, Option.some.injEq] at hvs
          subst hvs
          unfold F_slcA at hr
          split at hr
          · rename_i i off bs hq
            simp only [List.cons.injEq] at hq
            obtain ⟨rfl, rfl⟩ := hq
            simp only at hr
            split at hr
            · rename_i u' hbu
              split at hr
              · rename_i l' hbl
                split at hr
                · rename_i hln
                  refine fin _ _ hx ?_ hr
                  simp only [asliceAt, h1, h2, ab11 (e := e) (len := n) (l := l) (u := u) (by rw [hu, abound_bnd]; exact hbu) (by rw [hl, abound_bnd]; exact hbl) hln]
                · cases hr
              · cases hr
            · cases hr
          · cases hr

theorem aops_append {e : Operand → Option AV} : ∀ {a b : List Operand} {vs : List AV}, aops e (a ++ b) = some vs → aops e a = some (vs.take a.length) ∧ aops e b = some (vs.drop a.length)
  | [], b, vs, h => ⟨rfl, by simpa using h⟩
  | x :: a, b, vs, h => by
    simp only [List.cons_append, aops] at h
    split at h
    · rename_i v vs' hv hvs
      simp only [Option.some.injEq] at h
      subst h
      obtain ⟨h1, h2⟩ := aops_append hvs
      simp only [aops, hv, h1, List.length_cons, List.take_succ_cons, List.drop_succ_cons]
      exact ⟨trivial, h2⟩
    · cases h

theorem g_makeFunc {f : FuncId} {first captured : Array Operand} (hr : (aops e (first.toList ++ captured.toList)).bind (F_mkf f first.size h) = some r) :
    aop P call e h { dst, op := .makeFunc (.func f) first captured, type, pos, after, guard } = some r := by
  rw [Option.bind_eq_some_iff] at hr
  obtain ⟨vs, hvs, hr⟩ := hr
  obtain ⟨h1, h2⟩ := aops_append hvs
  refine x_read rfl rfl ?_ hr
  rw [Array.length_toList] at h1 h2
  simp only [aread, h1, h2]

theorem g_mki {t : TypeId} {d : TypeDesc} {x : Operand} (h1 : P.underlying t = some d) (hd : ∀ m, d ≠ .interface m) (hr : (aops e [x]).bind (F_mki t h) = some r) :
    aop P call e h { dst, op := .makeInterface t x, type, pos, after, guard } = some r := by
  rw [aops1, Option.bind_eq_some_iff] at hr
  obtain ⟨v, hv, hr⟩ := hr
  simp only [F_mki] at hr
  refine x_read rfl rfl ?_ hr
  simp only [aread, hv, h1]

theorem g_asr {t xt : TypeId} {d : TypeDesc} {x : Operand} {z : AV} {ok : Bool} (h1 : P.underlying t = some d) (hd : ∀ m, d ≠ .interface m) (h2 : azero P t = some z) (hr : (aops e [x]).bind (F_asr t z ok h) = some r) :
    aop P call e h { dst, op := .typeAssert x xt t ok, type, pos, after, guard } = some r := by
  rw [aops1, Option.bind_eq_some_iff] at hr
  obtain ⟨v, hv, hr⟩ := hr
  unfold F_asr at hr
  split at hr
  · rename_i t' v' hq
    simp only [List.cons.injEq, and_true] at hq
    subst hq
    split at hr
    · rename_i ht
      refine x_read rfl rfl ?_ hr
      simp only [aread, hv, aassert, h1, ht, if_true]
    · rename_i ht
      split at hr
      · rename_i hok
        refine x_read rfl rfl ?_ hr
        simp only [aread, hv, aassert, h1, ht, if_false, hok, if_true, h2, Option.map_some]
      · cases hr
  · rename_i hq
    simp only [List.cons.injEq, and_true] at hq
    subst hq
    split at hr
    · rename_i hok
      refine x_read rfl rfl ?_ hr
      simp only [aread, hv, aassert, h1, hok, if_true, h2, Option.map_some]
    · cases hr
  · cases hr

theorem g_b2s {src t2 el : TypeId} {x : Operand} (h1 : P.underlying src = some (.slice el)) (h2 : P.underlying t2 = some .string) (h3 : P.underlying el = some (.int .u8)) (hr : (aops e [x]).bind (F_b2s h) = some r) :
    aop P call e h { dst, op := .convert src t2 x, type, pos, after, guard } = some r := by
  rw [aops1, Option.bind_eq_some_iff] at hr
  obtain ⟨v, hv, hr⟩ := hr
  unfold F_b2s at hr
  split at hr
  · rename_i i off len cap op hq
    simp only [List.cons.injEq, and_true] at hq
    subst hq
    split at hr
    · rename_i cs hcs
      rw [Option.map_eq_some_iff] at hr
      obtain ⟨s, hs, hr⟩ := hr
      refine x_read (v := .str s) rfl rfl ?_ (by rw [hr])
      simp only [aread, hv, aconv, h1, h2, h3, hcs, hs, Option.map_some]
    · cases hr
  · rename_i cap hq
    simp only [List.cons.injEq, and_true] at hq
    subst hq
    refine x_read (v := .str .empty) rfl rfl ?_ hr
    simp only [aread, hv, aconv, h1, h2, h3]
    unfold apure
    have hall : (((Op.convert src t2 x).operands.toList.all fun z => oclosed (e z)) && !isSelect (Op.convert src t2 x)) = true := by
      simp [Op.operands, hv, oclosed, AV.closed, isSelect]
    rw [if_pos hall]
    simp only [execOp, hv, oden, AV.den]
    simp only [Go.convert, underlying, bind_assoc, prun_program, h1, h2, h3, pure_bind]
    rfl
  · cases hr

theorem g_eqB {op : BinOp} {neg : Bool} {t t2 : TypeId} {x y : Operand} (hop : op = if neg then .neq else .eql) (h1 : P.underlying t = some .bool) (hr : (aops e [x, y]).bind (F_eqB neg h) = some r) :
    aop P call e h { dst, op := .binOp op t x y t2, type, pos, after, guard } = some r := by
  subst hop
  rw [aops2] at hr
  simp only [Option.bind_eq_some_iff] at hr
  obtain ⟨v, hv, u, hu, hr⟩ := hr
  unfold F_eqB at hr
  split at hr
  · rename_i a b hq
    simp only [List.cons.injEq, and_true] at hq
    obtain ⟨rfl, rfl⟩ := hq
    refine x_read rfl rfl ?_ hr
    have hnil : anil P t (.bool a) (.bool b) = none := by simp [anil, h1]
    simp only [aread, hv, hu, hnil]
    unfold apure
    have hall : (((Op.binOp (if neg then .neq else .eql) t x y t2).operands.toList.all fun z => oclosed (e z)) && !isSelect (Op.binOp (if neg then .neq else .eql) t x y t2)) = true := by
      simp [Op.operands, hv, hu, oclosed, AV.closed, isSelect]
    rw [if_pos hall]
    simp only [execOp, hv, hu, oden, AV.den]
    have he : prun P (Op.equal t (.bool a) (.bool b)) = some (a == b) := by
      unfold Op.equal
      obtain ⟨m, hm⟩ := depth_succ
      rw [hm]
      unfold Op.equalIn
      simp only [underlying, bind_assoc, prun_program, h1, pure_bind]
      rfl
    have h2 : prun P (do eqGuard (if neg then .neq else .eql) t x y (.bool a) (.bool b); Go.binOp (if neg then .neq else .eql) t (.bool a) (.bool b)) = some (.bool ((a == b) != neg)) := by
      cases neg <;> simp only [Bool.false_eq_true, if_false, if_true]
      · refine (prun_bind (eqGuard .eql t x y (.bool a) (.bool b)) () rfl).trans ?_
        refine (prun_bind _ _ he).trans ?_
        cases a <;> cases b <;> rfl
      · refine (prun_bind (eqGuard .neq t x y (.bool a) (.bool b)) () rfl).trans ?_
        refine (prun_bind _ _ he).trans ?_
        cases a <;> cases b <;> rfl
    erw [prun_mm h2]
    rfl
  · cases hr

theorem g_eqS {op : BinOp} {neg : Bool} {t t2 : TypeId} {x y : Operand} (hop : op = if neg then .neq else .eql) (h1 : P.underlying t = some .string) (hr : (aops e [x, y]).bind (F_eqS neg h) = some r) :
    aop P call e h { dst, op := .binOp op t x y t2, type, pos, after, guard } = some r := by
  subst hop
  rw [aops2] at hr
  simp only [Option.bind_eq_some_iff] at hr
  obtain ⟨v, hv, u, hu, hr⟩ := hr
  unfold F_eqS at hr
  split at hr
  · rename_i a b hq
    simp only [List.cons.injEq, and_true] at hq
    obtain ⟨rfl, rfl⟩ := hq
    refine x_read rfl rfl ?_ hr
    have hnil : anil P t (.str a) (.str b) = none := by simp [anil, h1]
    simp only [aread, hv, hu, hnil]
    unfold apure
    have hall : (((Op.binOp (if neg then .neq else .eql) t x y t2).operands.toList.all fun z => oclosed (e z)) && !isSelect (Op.binOp (if neg then .neq else .eql) t x y t2)) = true := by
      simp [Op.operands, hv, hu, oclosed, AV.closed, isSelect]
    rw [if_pos hall]
    simp only [execOp, hv, hu, oden, AV.den]
    have h2 : prun P (do eqGuard (if neg then .neq else .eql) t x y (.string a) (.string b); Go.binOp (if neg then .neq else .eql) t (.string a) (.string b)) = some (.bool ((a.toList == b.toList) != neg)) := by
      cases neg <;> simp only [Bool.false_eq_true, if_false, if_true]
      · refine (prun_bind (eqGuard .eql t x y (.string a) (.string b)) () rfl).trans ?_
        show some (Value.bool (a.toList == b.toList)) = _
        simp
      · refine (prun_bind (eqGuard .neq t x y (.string a) (.string b)) () rfl).trans ?_
        show some (Value.bool (!(a.toList == b.toList))) = _
        simp
    erw [prun_mm h2]
    rfl
  · cases hr
end
end Go.Sv
