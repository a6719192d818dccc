/- DERIVED, by an AI agent: a part of the engine 'Sx' (a machine over values and numbered objects, proved sound against the model's calls): no condition. No person has read it. -/
import Derived.Test.YtlbgokakghchiaaDoorSxCan5
set_option linter.all false
namespace Go.Sx
open Go Go.RowKit

mutual
def AV.beq : AV → AV → Bool
  | .bool a, .bool b => a == b
  | .int k a, .int k' b => decide (k = k') && a == b
  | .str a, .str b => decide (a.data.toList = b.data.toList)
  | .ptr a, .ptr b => decide (a = b)
  | .slice a l c z o, .slice a' l' c' z' o' => decide (a = a') && l == l' && c == c' && decide (z = z') && o == o'
  | .map a, .map b => decide (a = b)
  | .chan a, .chan b => decide (a = b)
  | .func f x y, .func f' x' y' => f == f' && AV.beqL x x' && AV.beqL y y'
  | .nilFunc, .nilFunc => true
  | .iface t v, .iface t' v' => t == t' && v.beq v'
  | .nilIface, .nilIface => true
  | .agg x, .agg y => AV.beqL x y
  | .tuple x, .tuple y => AV.beqL x y
  | _, _ => false
def AV.beqL : List AV → List AV → Bool
  | [], [] => true
  | x :: xs, y :: ys => x.beq y && AV.beqL xs ys
  | _, _ => false
end

mutual
theorem AV.beq_eq : ∀ (a b : AV), a.beq b = true → a = b
  | .bool a, b, h => by cases b <;> simp_all [AV.beq]
  | .int k a, b, h => by cases b <;> simp_all [AV.beq]
  | .str a, b, h => by
    cases b <;> simp only [AV.beq, decide_eq_true_eq, Bool.false_eq_true] at h
    rename_i b
    have h1 : a.data = b.data := Array.ext' h
    cases a; cases b; simp_all
  | .ptr a, b, h => by cases b <;> simp_all [AV.beq]
  | .slice a l c z o, b, h => by cases b <;> simp_all [AV.beq]
  | .map a, b, h => by cases b <;> simp_all [AV.beq]
  | .chan a, b, h => by cases b <;> simp_all [AV.beq]
  | .func f x y, b, h => by
    cases b <;> simp only [AV.beq, Bool.and_eq_true, Bool.false_eq_true] at h
    rename_i f' x' y'
    rw [eq_of_beq h.1.1, AV.beqL_eq x x' h.1.2, AV.beqL_eq y y' h.2]
  | .nilFunc, b, h => by cases b <;> simp_all [AV.beq]
  | .iface t v, b, h => by
    cases b <;> simp only [AV.beq, Bool.and_eq_true, Bool.false_eq_true] at h
    rename_i t' v'
    rw [eq_of_beq h.1, AV.beq_eq v v' h.2]
  | .nilIface, b, h => by cases b <;> simp_all [AV.beq]
  | .agg x, b, h => by
    cases b <;> simp only [AV.beq, Bool.false_eq_true] at h
    rename_i y
    rw [AV.beqL_eq x y h]
  | .tuple x, b, h => by
    cases b <;> simp only [AV.beq, Bool.false_eq_true] at h
    rename_i y
    rw [AV.beqL_eq x y h]
theorem AV.beqL_eq : ∀ (a b : List AV), AV.beqL a b = true → a = b
  | [], b, h => by cases b <;> simp_all [AV.beqL]
  | x :: xs, b, h => by
    cases b with
    | nil => simp [AV.beqL] at h
    | cons y ys =>
      simp only [AV.beqL, Bool.and_eq_true] at h
      rw [AV.beq_eq x y h.1, AV.beqL_eq xs ys h.2]
end

mutual
theorem AV.beq_refl : ∀ (a : AV), a.beq a = true
  | .bool a => by simp [AV.beq]
  | .int k a => by simp [AV.beq]
  | .str a => by simp [AV.beq]
  | .ptr a => by simp [AV.beq]
  | .slice a l c z o => by simp [AV.beq]
  | .map a => by simp [AV.beq]
  | .chan a => by simp [AV.beq]
  | .func f x y => by simp [AV.beq, AV.beqL_refl x, AV.beqL_refl y]
  | .nilFunc => rfl
  | .iface t v => by simp [AV.beq, AV.beq_refl v]
  | .nilIface => rfl
  | .agg x => by simp [AV.beq, AV.beqL_refl x]
  | .tuple x => by simp [AV.beq, AV.beqL_refl x]
theorem AV.beqL_refl : ∀ (a : List AV), AV.beqL a a = true
  | [] => rfl
  | x :: xs => by simp [AV.beqL, AV.beq_refl x, AV.beqL_refl xs]
end

/-- does what it leaves hang on memory? -/
def readsHeap : Op → Bool
  | .load .. | .lookup .. | .convert .. | .call _ => true
  | _ => false

theorem aread_free {P : Program} {e : Operand → Option AV} {h h' : AHeap} {o : Oper} (hr : readsHeap o.op = false) : aread P e h o = aread P e h' o := by
  obtain ⟨dst, op, type, pos, after, guard⟩ := o
  cases op <;> simp only [readsHeap, Bool.true_eq_false] at hr <;> first | rfl | (rename_i fn _ _; cases fn <;> rfl)

/-! ### the order, and what is asked of it: closed facts of a region -/
def befI (ops : Array Oper) (i j : Nat) : Bool := ((Region.before ops).getD j 0).testBit i

def isEffOp : Op → Bool
  | .store .. | .mapUpdate .. | .insert .. | .makeMap .. | .makeSlice .. | .makeChan .. => true
  | .call { callee := .builtin .len, .. } | .call { callee := .builtin .min, .. } | .call { callee := .builtin .max, .. } | .call { callee := .builtin .cap, .. } => false
  | .call _ => true
  | _ => false

def planFrom (ops : Array Oper) : List Nat → List Nat → List Nat
  | [], acc => acc ++ (List.range ops.size).filter fun i => !acc.contains i
  | i :: is, acc =>
    if isEffOp (ops.getD i default).op then planFrom ops is (acc ++ (List.range ops.size).filter fun j => (befI ops j i || j == i) && !acc.contains j)
    else planFrom ops is acc

def plan (ops : Array Oper) : List Nat := planFrom ops (List.range ops.size) []

def confl (ops : Array Oper) (a b : Oper) : Bool :=
  (match a.dst with | some d => (b.looksAt ops).contains d || b.dst == some d | none => false) ||
  (match b.dst with | some d => (a.looksAt ops).contains d | none => false)

def statOk (ops : Array Oper) (pi : List Nat) : Bool :=
  let n := ops.size
  let o (k : Nat) := ops.getD (pi.getD k 0) default
  let x (k : Nat) := pi.getD k 0
  pi.length == n &&
  (List.range n).all (fun k => decide (x k < n)) &&
  (List.range n).all (fun i => pi.contains i) &&
  (List.range n).all (fun m => (List.range m).all fun k => !(x k == x m)) &&
  (List.range n).all (fun k => (List.range n).all fun m => decide (k < m) || !befI ops (x k) (x m)) &&
  (List.range n).all (fun m => (o m).after.toList.all fun e => !Region.binds .any e || (decide (e.on < n) && befI ops e.on (x m))) &&
  (List.range n).all (fun m => (List.range n).all fun k => !befI ops (x k) (x m) || (o m).after.toList.any fun e => Region.binds .any e && decide (e.on < n) && (e.on == x k || befI ops (x k) e.on)) &&
  (List.range n).all (fun m => (List.range m).all fun k => !confl ops (o k) (o m) || befI ops (x k) (x m)) &&
  (List.range n).all (fun m => !isEffOp (o m).op || (List.range m).all fun k => befI ops (x k) (x m)) &&
  (List.range n).all (fun m => !isSelect (o m).op)

/-- one operation: how it stands to memory, what it leaves, the heap behind -/
def aopC (P : Program) (call : CallF) (e : Operand → Option AV) (h : AHeap) (o : Oper) : Option (Cls × AV × AHeap) :=
  if isAl o.op then (awrite P e h o).map fun r => (.al, r.1, r.2)
  else if isEffOp o.op then (aeff P call e h o).map fun r => (.eff, r.1, r.2)
  else (aread P e h o).map fun v => (.rd, v, h)

structure Rec where
  cls : Cls
  v : AV
  t : List AV
  h : AHeap
  deriving Inhabited

def arunC (P : Program) (G : Nat → Option Nat) (call : CallF) (ops : Array Oper) : List Nat → List AV → AHeap → Option (List Rec × List AV × AHeap)
  | [], t, h => some ([], t, h)
  | i :: is, t, h =>
    let o := ops.getD i default
    if Region.wanted o (ayield ops t) then
      match aopC P call (aev G t) h o with
      | some (c, v, h') => match arunC P G call ops is (aput t o.dst v) h' with
        | some (rs, t', h'') => some (⟨c, v, t, h⟩ :: rs, t', h'')
        | none => none
      | none => none
    else match arunC P G call ops is (aput t o.dst (.tuple [])) h with
      | some (rs, t', h'') => some (⟨.rd, .tuple [], t, h⟩ :: rs, t', h'')
      | none => none

def oeq : Option AV → AV → Bool
  | some a, b => a.beq b
  | none, _ => false

/-- what is read is the same, whenever it may be read -/
def chkReads (P : Program) (G : Nat → Option Nat) (ops : Array Oper) (pi : List Nat) (rs : List Rec) : Bool :=
  let r (k : Nat) := rs.getD k default
  let x (k : Nat) := pi.getD k 0
  (rs.all fun q => decide (q.cls = .rd)) ||
  (List.range ops.size).all fun k =>
    let o := ops.getD (x k) default
    !readsHeap o.op || !decide ((r k).cls = .rd) || !Region.wanted o (ayield ops (r k).t) ||
    (List.range (k + 1)).all fun p =>
      !(p == 0 || decide ((r (p - 1)).cls = .eff)) ||
      (List.range ops.size).any (fun m => decide ((r m).cls = .eff) && befI ops (x m) (x k) && decide (p ≤ m)) ||
      oeq (aread P (aev G (r k).t) (r p).h o) (r k).v

def adraw (P : Program) (G : Nat → Option Nat) (call : CallF) (ops : Array Oper) (t : List AV) (h : AHeap) : Option (List AV × AHeap) :=
  if statOk ops (plan ops) then
    match arunC P G call ops (plan ops) t h with
    | some (rs, t', h') => if chkReads P G ops (plan ops) rs then some (t', h') else none
    | none => none
  else none
end Go.Sx
