/- YtlbgokakghchiaaDoorSx5: texts of one's own, merged: SxDraw, SxDraw2, SxSel, SxRun, SxRun2, SxLaw. -/
import Derived.Test.YtlbgokakghchiaaDoorSx4
import Derived.Conc.LoneSelect
set_option linter.all false
namespace Go.Sx
open Go Go.RowKit

mutual
def AV.beq : AV → AV → Bool
  | .bool a, .bool b => a == b
  | .int k a, .int k' b => decide (k = k') && a == b
  | .str a, .str b => decide (a.data.toList = b.data.toList)
  | .ptr a, .ptr b => decide (a = b)
  | .slice a l c z o, .slice a' l' c' z' o' => decide (a = a') && l == l' && c == c' && decide (z = z') && o == o'
  | .map a, .map b => decide (a = b)
  | .chan a, .chan b => decide (a = b)
  | .func f x y, .func f' x' y' => f == f' && AV.beqL x x' && AV.beqL y y'
  | .nilFunc, .nilFunc => true
  | .iface t v, .iface t' v' => t == t' && v.beq v'
  | .nilIface, .nilIface => true
  | .agg x, .agg y => AV.beqL x y
  | .tuple x, .tuple y => AV.beqL x y
  | _, _ => false
def AV.beqL : List AV → List AV → Bool
  | [], [] => true
  | x :: xs, y :: ys => x.beq y && AV.beqL xs ys
  | _, _ => false
end

mutual
theorem AV.beq_eq : ∀ (a b : AV), a.beq b = true → a = b
  | .bool a, b, h => by cases b <;> simp_all [AV.beq]
  | .int k a, b, h => by cases b <;> simp_all [AV.beq]
  | .str a, b, h => by
    cases b <;> simp only [AV.beq, decide_eq_true_eq, Bool.false_eq_true] at h
    rename_i b
    have h1 : a.data = b.data := Array.ext' h
    cases a; cases b; simp_all
  | .ptr a, b, h => by cases b <;> simp_all [AV.beq]
  | .slice a l c z o, b, h => by cases b <;> simp_all [AV.beq]
  | .map a, b, h => by cases b <;> simp_all [AV.beq]
  | .chan a, b, h => by cases b <;> simp_all [AV.beq]
  | .func f x y, b, h => by
    cases b <;> simp only [AV.beq, Bool.and_eq_true, Bool.false_eq_true] at h
    rename_i f' x' y'
    rw [eq_of_beq h.1.1, AV.beqL_eq x x' h.1.2, AV.beqL_eq y y' h.2]
  | .nilFunc, b, h => by cases b <;> simp_all [AV.beq]
  | .iface t v, b, h => by
    cases b <;> simp only [AV.beq, Bool.and_eq_true, Bool.false_eq_true] at h
    rename_i t' v'
    rw [eq_of_beq h.1, AV.beq_eq v v' h.2]
  | .nilIface, b, h => by cases b <;> simp_all [AV.beq]
  | .agg x, b, h => by
    cases b <;> simp only [AV.beq, Bool.false_eq_true] at h
    rename_i y
    rw [AV.beqL_eq x y h]
  | .tuple x, b, h => by
    cases b <;> simp only [AV.beq, Bool.false_eq_true] at h
    rename_i y
    rw [AV.beqL_eq x y h]
theorem AV.beqL_eq : ∀ (a b : List AV), AV.beqL a b = true → a = b
  | [], b, h => by cases b <;> simp_all [AV.beqL]
  | x :: xs, b, h => by
    cases b with
    | nil => simp [AV.beqL] at h
    | cons y ys =>
      simp only [AV.beqL, Bool.and_eq_true] at h
      rw [AV.beq_eq x y h.1, AV.beqL_eq xs ys h.2]
end

mutual
theorem AV.beq_refl : ∀ (a : AV), a.beq a = true
  | .bool a => by simp [AV.beq]
  | .int k a => by simp [AV.beq]
  | .str a => by simp [AV.beq]
  | .ptr a => by simp [AV.beq]
  | .slice a l c z o => by simp [AV.beq]
  | .map a => by simp [AV.beq]
  | .chan a => by simp [AV.beq]
  | .func f x y => by simp [AV.beq, AV.beqL_refl x, AV.beqL_refl y]
  | .nilFunc => rfl
  | .iface t v => by simp [AV.beq, AV.beq_refl v]
  | .nilIface => rfl
  | .agg x => by simp [AV.beq, AV.beqL_refl x]
  | .tuple x => by simp [AV.beq, AV.beqL_refl x]
theorem AV.beqL_refl : ∀ (a : List AV), AV.beqL a a = true
  | [] => rfl
  | x :: xs => by simp [AV.beqL, AV.beq_refl x, AV.beqL_refl xs]
end

/-- does what it leaves hang on memory? -/
def readsHeap : Op → Bool
  | .load .. | .lookup .. | .convert .. | .call _ => true
  | _ => false

theorem aread_free {P : Program} {e : Operand → Option AV} {h h' : AHeap} {o : Oper} (hr : readsHeap o.op = false) : aread P e h o = aread P e h' o := by
  obtain ⟨dst, op, type, pos, after, guard⟩ := o
  cases op <;> simp only [readsHeap, Bool.true_eq_false] at hr <;> first | rfl | (rename_i fn _ _; cases fn <;> rfl)

/-! ### the order, and what is asked of it: closed facts of a region -/
def befI (ops : Array Oper) (i j : Nat) : Bool := ((Region.before ops).getD j 0).testBit i

def isEffOp : Op → Bool
  | .store .. | .mapUpdate .. | .insert .. | .makeMap .. | .makeSlice .. | .makeChan .. => true
  | .call { callee := .builtin .len, .. } | .call { callee := .builtin .min, .. } | .call { callee := .builtin .max, .. } | .call { callee := .builtin .cap, .. } => false
  | .call _ => true
  | _ => false

def planFrom (ops : Array Oper) : List Nat → List Nat → List Nat
  | [], acc => acc ++ (List.range ops.size).filter fun i => !acc.contains i
  | i :: is, acc =>
    if isEffOp (ops.getD i default).op then planFrom ops is (acc ++ (List.range ops.size).filter fun j => (befI ops j i || j == i) && !acc.contains j)
    else planFrom ops is acc

def plan (ops : Array Oper) : List Nat := planFrom ops (List.range ops.size) []

def confl (ops : Array Oper) (a b : Oper) : Bool :=
  (match a.dst with | some d => (b.looksAt ops).contains d || b.dst == some d | none => false) ||
  (match b.dst with | some d => (a.looksAt ops).contains d | none => false)

def statOk (ops : Array Oper) (pi : List Nat) : Bool :=
  let n := ops.size
  let o (k : Nat) := ops.getD (pi.getD k 0) default
  let x (k : Nat) := pi.getD k 0
  pi.length == n &&
  (List.range n).all (fun k => decide (x k < n)) &&
  (List.range n).all (fun i => pi.contains i) &&
  (List.range n).all (fun m => (List.range m).all fun k => !(x k == x m)) &&
  (List.range n).all (fun k => (List.range n).all fun m => decide (k < m) || !befI ops (x k) (x m)) &&
  (List.range n).all (fun m => (o m).after.toList.all fun e => !Region.binds .any e || (decide (e.on < n) && befI ops e.on (x m))) &&
  (List.range n).all (fun m => (List.range n).all fun k => !befI ops (x k) (x m) || (o m).after.toList.any fun e => Region.binds .any e && decide (e.on < n) && (e.on == x k || befI ops (x k) e.on)) &&
  (List.range n).all (fun m => (List.range m).all fun k => !confl ops (o k) (o m) || befI ops (x k) (x m)) &&
  (List.range n).all (fun m => !isEffOp (o m).op || (List.range m).all fun k => befI ops (x k) (x m)) &&
  (List.range n).all (fun m => !isSelect (o m).op)

/-- one operation: how it stands to memory, what it leaves, the heap behind -/
def aopC (P : Program) (call : CallF) (e : Operand → Option AV) (h : AHeap) (o : Oper) : Option (Cls × AV × AHeap) :=
  if isAl o.op then (awrite P e h o).map fun r => (.al, r.1, r.2)
  else if isEffOp o.op then (aeff P call e h o).map fun r => (.eff, r.1, r.2)
  else (aread P e h o).map fun v => (.rd, v, h)

structure Rec where
  cls : Cls
  v : AV
  t : List AV
  h : AHeap
  deriving Inhabited

def arunC (P : Program) (G : Nat → Option Nat) (call : CallF) (ops : Array Oper) : List Nat → List AV → AHeap → Option (List Rec × List AV × AHeap)
  | [], t, h => some ([], t, h)
  | i :: is, t, h =>
    let o := ops.getD i default
    if Region.wanted o (ayield ops t) then
      match aopC P call (aev G t) h o with
      | some (c, v, h') => match arunC P G call ops is (aput t o.dst v) h' with
        | some (rs, t', h'') => some (⟨c, v, t, h⟩ :: rs, t', h'')
        | none => none
      | none => none
    else match arunC P G call ops is (aput t o.dst (.tuple [])) h with
      | some (rs, t', h'') => some (⟨.rd, .tuple [], t, h⟩ :: rs, t', h'')
      | none => none

def oeq : Option AV → AV → Bool
  | some a, b => a.beq b
  | none, _ => false

/-- what is read is the same, whenever it may be read -/
def chkReads (P : Program) (G : Nat → Option Nat) (ops : Array Oper) (pi : List Nat) (rs : List Rec) : Bool :=
  let r (k : Nat) := rs.getD k default
  let x (k : Nat) := pi.getD k 0
  (rs.all fun q => decide (q.cls = .rd)) ||
  (List.range ops.size).all fun k =>
    let o := ops.getD (x k) default
    !readsHeap o.op || !decide ((r k).cls = .rd) || !Region.wanted o (ayield ops (r k).t) ||
    (List.range (k + 1)).all fun p =>
      !(p == 0 || decide ((r (p - 1)).cls = .eff)) ||
      (List.range ops.size).any (fun m => decide ((r m).cls = .eff) && befI ops (x m) (x k) && decide (p ≤ m)) ||
      oeq (aread P (aev G (r k).t) (r p).h o) (r k).v

def adraw (P : Program) (G : Nat → Option Nat) (call : CallF) (ops : Array Oper) (t : List AV) (h : AHeap) : Option (List AV × AHeap) :=
  if statOk ops (plan ops) then
    match arunC P G call ops (plan ops) t h with
    | some (rs, t', h') => if chkReads P G ops (plan ops) rs then some (t', h') else none
    | none => none
  else none
end Go.Sx
namespace Go.Sx
open Go Go.RowKit

section
variable {N : Nat} {G : Nat → Option Nat} {P : Program} {call : CallF} {ops : Array Oper} {ρ : Env} {h h' : AHeap} {w : World} {t t' : List AV} {a : Act}

def tAt (rs : List Rec) (t' : List AV) (j : Nat) : List AV := if j < rs.length then (rs.getD j default).t else t'
def hAt (rs : List Rec) (h' : AHeap) (j : Nat) : AHeap := if j < rs.length then (rs.getD j default).h else h'

def StepFact (P : Program) (G : Nat → Option Nat) (call : CallF) (ops : Array Oper) (i : Nat) (r : Rec) (tn : List AV) (hn : AHeap) : Prop :=
  (Region.wanted (ops.getD i default) (ayield ops r.t) = false ∧ r.v = .tuple [] ∧ r.cls = .rd ∧ tn = aput r.t (ops.getD i default).dst r.v ∧ hn = r.h) ∨
  (Region.wanted (ops.getD i default) (ayield ops r.t) = true ∧ aopC P call (aev G r.t) r.h (ops.getD i default) = some (r.cls, r.v, hn) ∧ tn = aput r.t (ops.getD i default).dst r.v)

theorem arunC_spec : ∀ (l : List Nat) (t : List AV) (h : AHeap) (rs : List Rec) (t' : List AV) (h' : AHeap), arunC P G call ops l t h = some (rs, t', h') →
    rs.length = l.length ∧ tAt rs t' 0 = t ∧ hAt rs h' 0 = h ∧ ∀ j, j < l.length → StepFact P G call ops (l.getD j 0) (rs.getD j default) (tAt rs t' (j + 1)) (hAt rs h' (j + 1))
  | [], t, h, rs, t', h', hr => by
    simp only [arunC, Option.some.injEq, Prod.mk.injEq] at hr
    obtain ⟨rfl, rfl, rfl⟩ := hr
    exact ⟨rfl, rfl, rfl, fun j hj => by simp at hj⟩
  | i :: is, t, h, rs, t', h', hr => by
    simp only [arunC] at hr
    have sh : ∀ (r : Rec) (rs' : List Rec) (j : Nat), tAt (r :: rs') t' (j + 1) = tAt rs' t' j ∧ hAt (r :: rs') h' (j + 1) = hAt rs' h' j := by
      intro r rs' j
      unfold tAt hAt
      simp
    split at hr
    · rename_i hw
      split at hr
      · rename_i c v h1 hop
        split at hr
        · rename_i rs1 t1 h2 hrec
          simp only [Option.some.injEq, Prod.mk.injEq] at hr
          obtain ⟨rfl, rfl, rfl⟩ := hr
          obtain ⟨e1, e2, e3, e4⟩ := arunC_spec is _ _ _ _ _ hrec
          refine ⟨by simp [e1], rfl, rfl, ?_⟩
          intro j hj
          rw [(sh _ _ j).1, (sh _ _ j).2]
          cases j with
          | zero => rw [e2, e3]; exact .inr ⟨hw, hop, rfl⟩
          | succ j => exact e4 j (by simpa using hj)
        · cases hr
      · cases hr
    · rename_i hw
      split at hr
      · rename_i rs1 t1 h2 hrec
        simp only [Option.some.injEq, Prod.mk.injEq] at hr
        obtain ⟨rfl, rfl, rfl⟩ := hr
        obtain ⟨e1, e2, e3, e4⟩ := arunC_spec is _ _ _ _ _ hrec
        refine ⟨by simp [e1], rfl, rfl, ?_⟩
        intro j hj
        rw [(sh _ _ j).1, (sh _ _ j).2]
        cases j with
        | zero => rw [e2, e3]; exact .inl ⟨by simpa using hw, rfl, rfl, rfl, rfl⟩
        | succ j => exact e4 j (by simpa using hj)
      · cases hr

/-- our order as a run -/
def canOf (ops : Array Oper) (pi : List Nat) (rs : List Rec) (t' : List AV) (h' : AHeap) : Can where
  ops := ops
  pi := fun k => pi.getD k 0
  bef := fun k m => decide (k < ops.size) && (decide (m < ops.size) && befI ops (pi.getD k 0) (pi.getD m 0))
  cls := fun k => (rs.getD k default).cls
  v := fun k => (rs.getD k default).v
  t := tAt rs t'
  h := hAt rs h'

theorem confl_spec {x y : Oper} (hc : (∃ d, x.dst = some d ∧ (d ∈ y.looksAt ops ∨ y.dst = some d)) ∨ (∃ d, y.dst = some d ∧ d ∈ x.looksAt ops)) : confl ops x y = true := by
  unfold confl
  rcases hc with ⟨d, h1, h2⟩ | ⟨d, h1, h2⟩
  · rw [h1]
    rcases h2 with h2 | h2
    · simp [h2]
    · simp [h2]
  · rw [h1]; simp [h2]

theorem canOf_ok {pi : List Nat} {rs : List Rec} (hst : statOk ops pi = true) (hrun : arunC P G call ops pi t h = some (rs, t', h')) (hchk : chkReads P G ops pi rs = true) :
    (canOf ops pi rs t' h').Ok P G call := by
  obtain ⟨r1, r2, r3, r4⟩ := arunC_spec _ _ _ _ _ _ hrun
  simp only [statOk, Bool.and_eq_true, List.all_eq_true, List.mem_range, beq_iff_eq, decide_eq_true_eq, Bool.or_eq_true, Bool.not_eq_true', List.any_eq_true, beq_eq_false_iff_ne, List.contains_iff_mem] at hst
  obtain ⟨⟨⟨⟨⟨⟨⟨⟨⟨s1, s2⟩, s3⟩, s4⟩, s5⟩, s6⟩, s7⟩, s8⟩, s9⟩, s10⟩ := hst
  have hn : (canOf ops pi rs t' h').n = ops.size := rfl
  have hop : ∀ k, (canOf ops pi rs t' h').op k = ops.getD (pi.getD k 0) default := fun _ => rfl
  have hbef : ∀ k m, (canOf ops pi rs t' h').bef k m = true ↔ k < ops.size ∧ m < ops.size ∧ befI ops (pi.getD k 0) (pi.getD m 0) = true := fun k m => by
    simp [canOf]
  have hinj : ∀ k m, k < ops.size → m < ops.size → pi.getD k 0 = pi.getD m 0 → k = m := by
    intro k m hk hm he
    rcases Nat.lt_trichotomy k m with q | q | q
    · exact absurd he (s4 m hm k q)
    · exact q
    · exact absurd he.symm (s4 k hk m q)
  have hsurj : ∀ i, i < ops.size → ∃ k, k < ops.size ∧ pi.getD k 0 = i := by
    intro i hi
    obtain ⟨k, hk, he⟩ := List.getElem_of_mem (s3 i hi)
    exact ⟨k, by omega, by simp [List.getD_eq_getElem?_getD, List.getElem?_eq_getElem hk, he]⟩
  refine ⟨?_, ?_, ?_, ?_, ?_, ?_, ?_, ?_, ?_, ?_, ?_⟩
  · intro k hk; exact s2 k hk
  · exact hinj
  · exact hsurj
  · intro k m hm hb
    rw [hbef] at hb
    rcases s5 k hb.1 m hb.2.1 with q | q
    · exact q
    · rw [hb.2.2] at q; cases q
  · intro m hm e he hbi
    rcases s6 m hm e (Array.mem_toList_iff.2 he) with q | q
    · rw [hbi] at q; cases q
    · obtain ⟨k, hk, hke⟩ := hsurj e.on q.1
      exact ⟨k, hk, hke, (hbef k m).2 ⟨hk, hm, by rw [hke]; exact q.2⟩⟩
  · intro k m hm hb
    rw [hbef] at hb
    rcases s7 m hm k hb.1 with q | ⟨e, he, q⟩
    · rw [hb.2.2] at q; cases q
    · obtain ⟨⟨q1, q2⟩, q3⟩ := q
      obtain ⟨k', hk', hke⟩ := hsurj e.on q2
      refine ⟨e, Array.mem_toList_iff.1 he, q1, k', hk', hke, ?_⟩
      rcases q3 with q3 | q3
      · exact .inl (hinj k' k hk' hb.1 (by rw [hke, q3]))
      · exact .inr ((hbef k k').2 ⟨hb.1, hk', by rw [hke]; exact q3⟩)
  · intro k m hkm hm hc
    have hm' : m < ops.size := hm
    rcases s8 m hm k hkm with q | q
    · have := confl_spec (ops := ops) (x := ops.getD (pi.getD k 0) default) (y := ops.getD (pi.getD m 0) default) hc
      rw [this] at q; cases q
    · exact (hbef k m).2 ⟨by omega, hm, q⟩
  · intro m hm hcl k hkm
    have hm' : m < ops.size := hm
    have hstat : isEffOp (ops.getD (pi.getD m 0) default).op = true := by
      rcases r4 m (by omega) with ⟨_, _, hc, _⟩ | ⟨_, hc, _⟩
      · have : (rs.getD m default).cls = .eff := hcl
        rw [hc] at this; cases this
      · unfold aopC at hc
        have hcl' : (rs.getD m default).cls = .eff := hcl
        split at hc
        · rw [Option.map_eq_some_iff] at hc
          obtain ⟨q, _, hq⟩ := hc
          simp only [Prod.mk.injEq] at hq
          rw [hcl'] at hq; cases hq.1
        · split at hc
          · assumption
          · rw [Option.map_eq_some_iff] at hc
            obtain ⟨q, _, hq⟩ := hc
            simp only [Prod.mk.injEq] at hq
            rw [hcl'] at hq; cases hq.1
    rcases s9 m hm with q | q
    · rw [hstat] at q; cases q
    · exact (hbef k m).2 ⟨by omega, hm, q k hkm⟩
  · intro m hm cs b he
    have := s10 m hm
    have he' : (ops.getD (pi.getD m 0) default).op = .select cs b := he
    rw [he'] at this; simp [isSelect] at this
  · intro k hk
    have hk' : k < ops.size := hk
    have htk : (canOf ops pi rs t' h').t k = (rs.getD k default).t := if_pos (by omega)
    rcases r4 k (by omega) with ⟨_, _, _, hc, _⟩ | ⟨_, _, hc⟩
    · exact htk ▸ hc
    · exact htk ▸ hc
  · intro k hk
    have hk' : k < ops.size := hk
    have htk : (canOf ops pi rs t' h').t k = (rs.getD k default).t := if_pos (by omega)
    have hhk : (canOf ops pi rs t' h').h k = (rs.getD k default).h := if_pos (by omega)
    rw [htk, hhk]
    show _ ∨ _
    rcases r4 k (by omega) with ⟨hw, hv, hc, _, hh⟩ | ⟨hw, hc, _⟩
    · exact .inl ⟨hw, hv, hh, hc⟩
    · refine .inr ⟨hw, ?_⟩
      unfold aopC at hc
      split at hc
      · rename_i hal
        rw [Option.map_eq_some_iff] at hc
        obtain ⟨q, hq1, hq⟩ := hc
        simp only [Prod.mk.injEq] at hq
        refine .inr (.inr ⟨hq.1.symm, hal, ?_⟩)
        show awrite P _ _ _ = some ((rs.getD k default).v, hAt rs h' (k + 1))
        rw [← hq.2.1, ← hq.2.2]; exact hq1
      · split at hc
        · rw [Option.map_eq_some_iff] at hc
          obtain ⟨q, hq1, hq⟩ := hc
          simp only [Prod.mk.injEq] at hq
          refine .inr (.inl ⟨hq.1.symm, ?_⟩)
          show aeff P call _ _ _ = some ((rs.getD k default).v, hAt rs h' (k + 1))
          rw [← hq.2.1, ← hq.2.2]; exact hq1
        · rw [Option.map_eq_some_iff] at hc
          obtain ⟨q, hq1, hq⟩ := hc
          simp only [Prod.mk.injEq] at hq
          have hrd : (rs.getD k default).cls = .rd := hq.1.symm
          have hq1' : aread P (aev G (rs.getD k default).t) (rs.getD k default).h (ops.getD (pi.getD k 0) default) = some (rs.getD k default).v := by rw [← hq.2.1]; exact hq1
          refine .inl ⟨hrd, hq.2.2.symm, ?_⟩
          intro p hp hps hwin
          by_cases hrh : readsHeap (ops.getD (pi.getD k 0) default).op = true
          · simp only [chkReads, Bool.or_eq_true, List.all_eq_true, decide_eq_true_eq, List.mem_range, Bool.not_eq_true', List.any_eq_true, Bool.and_eq_true, decide_eq_false_iff_not, beq_iff_eq] at hchk
            rcases hchk with hall | hchk
            · -- nothing changes memory: one heap
              have hsame : ∀ j, j ≤ k → (rs.getD j default).h = (rs.getD 0 default).h := by
                intro j
                induction j with
                | zero => intro _; rfl
                | succ j ih =>
                  intro hj
                  rw [← ih (by omega)]
                  have hclj : (rs.getD j default).cls = .rd := hall _ (by
                    rw [List.getD_eq_getElem?_getD, List.getElem?_eq_getElem (show j < rs.length by omega)]
                    exact List.getElem_mem _)
                  have hnx : hAt rs h' (j + 1) = (rs.getD (j + 1) default).h := if_pos (by omega)
                  rcases r4 j (by omega) with ⟨_, _, _, _, hh⟩ | ⟨_, hc2, _⟩
                  · rw [← hnx, hh]
                  · rw [← hnx]
                    unfold aopC at hc2
                    split at hc2
                    · rw [Option.map_eq_some_iff] at hc2
                      obtain ⟨q2, _, hq2⟩ := hc2
                      simp only [Prod.mk.injEq] at hq2
                      rw [hclj] at hq2; cases hq2.1
                    · split at hc2
                      · rw [Option.map_eq_some_iff] at hc2
                        obtain ⟨q2, _, hq2⟩ := hc2
                        simp only [Prod.mk.injEq] at hq2
                        rw [hclj] at hq2; cases hq2.1
                      · rw [Option.map_eq_some_iff] at hc2
                        obtain ⟨q2, _, hq2⟩ := hc2
                        simp only [Prod.mk.injEq] at hq2
                        exact hq2.2.2.symm
              have hhp : (canOf ops pi rs t' h').h p = (rs.getD p default).h := if_pos (by omega)
              rw [hhp, hsame p hp, ← hsame k (Nat.le_refl _)]
              exact hq1'
            · have h1 := hchk k hk'
              rcases h1 with ((h1 | h1) | h1) | h1
              · rw [hrh] at h1; cases h1
              · exact absurd hrd h1
              · rw [hw] at h1; cases h1
              · have h2 := h1 p (by omega)
                rcases h2 with (h2 | h2) | h2
                · exfalso
                  rcases hps with e | e
                  · rw [e] at h2; simp at h2
                  · have : (rs.getD (p - 1) default).cls = .eff := e
                    rw [this] at h2; simp at h2
                · exfalso
                  obtain ⟨m, hm, ⟨hm1, hm2⟩, hm3⟩ := h2
                  have := hwin m hm hm1 ((hbef m k).2 ⟨hm, hk', hm2⟩)
                  omega
                · have hhp : (canOf ops pi rs t' h').h p = (rs.getD p default).h := if_pos (by omega)
                  rw [hhp]
                  unfold oeq at h2
                  split at h2
                  · rename_i y u hy
                    rw [AV.beq_eq _ _ h2] at hy
                    exact hy
                  · cases h2
          · refine Eq.trans ?_ hq1'
            exact aread_free (Bool.eq_false_iff.2 hrh)

/-- A REGION THAT DRAWS ITS ORDER -/
theorem adraw_sound {id : Nat} {Q : Exit → Act → World → Prop} (hm : P.follows .mixedOrders = true) (hc : CallOk P N G call) (r : R N G ρ h w) (x : TR (below h.n) ρ t a)
    (hs : adraw P G call ops t h = some (t', h'))
    (hQ : ∀ ρ' a' w', R N G ρ' h' w' → Stp ρ h w ρ' h' w' → TR (below h'.n) ρ' t' a' → Q .normal a' w') : (Code.region id ops true).wp P Q a w := by
  unfold adraw at hs
  split at hs
  case isFalse => cases hs
  rename_i hst
  split at hs
  case h_2 => cases hs
  rename_i rs t1 h1 hrun
  split at hs
  case isFalse => cases hs
  rename_i hchk
  simp only [Option.some.injEq, Prod.mk.injEq] at hs
  obtain ⟨rfl, rfl⟩ := hs
  have ok := canOf_ok hst hrun hchk
  obtain ⟨e1, e2, e3, e4⟩ := arunC_spec _ _ _ _ _ _ hrun
  have hlen : (plan ops).length = ops.size := by
    have := hst
    simp only [statOk, Bool.and_eq_true, beq_iff_eq] at this
    exact this.1.1.1.1.1.1.1.1.1
  have hend : (canOf ops (plan ops) rs t1 h1).h (canOf ops (plan ops) rs t1 h1).n = h1 ∧ (canOf ops (plan ops) rs t1 h1).t (canOf ops (plan ops) rs t1 h1).n = t1 := by
    constructor
    · exact if_neg (by show ¬ ops.size < rs.length; omega)
    · exact if_neg (by show ¬ ops.size < rs.length; omega)
  refine wp_region_any hm ?_
  have r' : R N G ρ h { w with drawn := w.drawn + 1 } := R.heap_eq (w := w) rfl r
  refine Can.sound (C := canOf ops (plan ops) rs t1 h1) (ρ0 := ρ) (w0 := { w with drawn := w.drawn + 1 }) hc ok ?_ ops.size (Array.replicate ops.size false) a _ 0 ρ (by simp; rfl) ?_ ?_
  · intro ρ' a' w' q1 q2 q3
    rw [hend.1] at q1 q2 q3
    rw [hend.2] at q3
    have h0 : (canOf ops (plan ops) rs t1 h1).h 0 = h := e3
    rw [h0] at q2
    exact hQ ρ' a' w' q1 ((Stp.heap_eq (ρ := ρ) (h := h) (w := w) (w' := { w with drawn := w.drawn + 1 }) rfl rfl rfl rfl).trans q2) q3
  · unfold Can.left
    refine Nat.le_trans (List.length_filter_le _ _) ?_
    simp; exact Nat.le_refl _
  · have h0 : (canOf ops (plan ops) rs t1 h1).h 0 = h := e3
    have t0 : (canOf ops (plan ops) rs t1 h1).t 0 = t := e2
    have hL : ∀ k, (canOf ops (plan ops) rs t1 h1).Lof (Array.replicate ops.size false) k = false := by
      intro k
      unfold Can.Lof
      simp only [Array.getD_eq_getD_getElem?]
      by_cases hk : (canOf ops (plan ops) rs t1 h1).pi k < ops.size
      · simp [hk]
      · simp [hk]
    have hT : (canOf ops (plan ops) rs t1 h1).T ((canOf ops (plan ops) rs t1 h1).Lof (Array.replicate ops.size false)) (canOf ops (plan ops) rs t1 h1).n = t := by
      have : ∀ n, (canOf ops (plan ops) rs t1 h1).T ((canOf ops (plan ops) rs t1 h1).Lof (Array.replicate ops.size false)) n = t := by
        intro n
        induction n with
        | zero => exact t0
        | succ n ih => simp only [Can.T, hL, Bool.false_eq_true, if_false]; exact ih
      exact this _
    refine ⟨Nat.zero_le _, r.base, .inl rfl, ?_, by intro k hk; omega, ?_, by rw [h0]; exact r', by rw [h0]; exact Stp.refl _ _ _, by rw [hT]; exact x.tmps, x.defers, ?_, ?_, ?_, fun k _ => hL k, by rw [h0, t0]; exact x.ws⟩
    · intro k _ _
      rw [hL]; simp
    · intro k m _ _ hm; rw [hL] at hm; cases hm
    · intro k _ hk; rw [hL] at hk; cases hk
    · intro k _ _ _ hk; rw [hL] at hk; cases hk
    · intro k m _ _ _ hk; rw [hL] at hk; cases hk
end
end Go.Sx
namespace Go.Sx
open Go Go.RowKit Go.Conc

/-- one case and a default, nobody else being there -/
def aselect (P : Program) (e : Operand → Option AV) (h : AHeap) (o : Oper) : Option (AV × AHeap) :=
  match o.op with
  | .select ⟨[s]⟩ false =>
    match e s.chan, azero P s.elem, s.send with
    | some (.chan (some i)), some z, none =>
      match h.get i with
      | some (.chan cap (v :: buf)) => some (.tuple [.int .i64 0, .bool true, v], h.set i (.chan cap buf))
      | some (.chan cap []) => some (.tuple [.int .i64 (-1), .bool false, z], h)
      | _ => none
    | some (.chan (some i)), some z, some x =>
      match h.get i, e x with
      | some (.chan cap buf), some v =>
        if buf.length < cap then some (.tuple [.int .i64 0, .bool false], h.set i (.chan cap (buf ++ [v])))
        else some (.tuple [.int .i64 (-1), .bool false], h)
      | _, _ => none
    | _, _, _ => none
  | _ => none

section
variable {N : Nat} {G : Nat → Option Nat} {ρ ρ' : Env} {h h' : AHeap} {w w' : World} {P : Program} {e : Operand → Option AV} {ev : Operand → Value} {S : Nat → Prop} {t : List AV} {a : Act}

theorem aselect_mono {o : Oper} {v : AV} (hs : aselect P e h o = some (v, h')) : h.n ≤ h'.n := by
  unfold aselect at hs
  repeat' split at hs
  all_goals first | (cases hs; done) | (simp only [Option.some.injEq, Prod.mk.injEq] at hs; rw [← hs.2]; first | exact Nat.le_refl _)

theorem stepG_apply_comm {fr : Frame} {cs : List Frame} {s : Sem Next} {w : World} {cases : Array CommCase} {shape : CommShape} (hr : s.run P w = .ok (.comm cases false shape) w) :
    ∃ es, stepG.apply P true fr cs none s w = .comm (Conc.G fr cs) cases false shape w es := by
  simp only [stepG.apply, Sem.runT_eq, hr]
  exact ⟨_, rfl⟩

/-- the step of a select -/
theorem aselect_step (r : R N G ρ h w) (he : Evs e ev ρ (below h.n)) {o : Oper} {v : AV} (hs : aselect P e h o = some (v, h'))
    {fr : Frame} {cs : List Frame} (hg : stepG P true (Conc.G fr cs) w = stepG.apply P true fr cs none (execOp ev o) w) :
    ∃ w', step P (lone fr cs w) = .next (lone (fr.finish (v.den ρ)) cs w') ∧ R N G ρ h' w' ∧ Stp ρ h w ρ h' w' ∧ v.ws (below h'.n) := by
  obtain ⟨dst, op, type, pos, after, guard⟩ := o
  unfold aselect at hs
  split at hs
  case h_2 => cases hs
  rename_i s hop
  simp only at hop; subst hop
  split at hs
  case h_3 => cases hs
  · rename_i i z hch hz hsend
    have e1 := he.of hch
    obtain ⟨ez, _⟩ := azero_sound (ρ := ρ) hz w (below h.n)
    have hrun : (execOp ev { dst, op := .select ⟨[s]⟩ false, type, pos, after, guard }).run P w = .ok (.comm #[rcase (ρ i).b (z.den ρ)] false .select) w := by
      simp only [execOp, Sem.run_bind]
      simp [hsend, e1, ez, AV.den, rcase]
    obtain ⟨es, hst⟩ := stepG_apply_comm (fr := fr) (cs := cs) hrun
    rw [hst] at hg
    split at hs
    case h_3 => cases hs
    · rename_i cap u buf hi
      simp only [Option.some.injEq, Prod.mk.injEq] at hs
      obtain ⟨rfl, rfl⟩ := hs
      obtain ⟨ss, rr, hc⟩ := r.fits i _ hi
      have hlt := (Array.getElem?_eq_some_iff.1 hc).1
      have hst := step_lone_select_recv_buf hg hc (by simp)
      have hws : u.ws (below h.n) ∧ AV.wsL (below h.n) buf := r.ws i _ hi
      refine ⟨w.setChan (ρ i).b cap (buf.map (AV.den ρ)).toArray false ss (rr + 1) false, ?_, ?_⟩
      · refine Eq.trans hst ?_
        simp [AV.den, AV.denL, goInt, lone, solo, Conc.G]
        rw [List.take_of_length_le (by simp)]
      · obtain ⟨k1, k2⟩ := r.set (w' := w.setChan (ρ i).b cap (buf.map (AV.den ρ)).toArray false ss (rr + 1) false) (o' := .chan cap buf) hi rfl rfl hws.2
          (fun b hne => by simp only [World.setChan]; rw [Array.getElem?_setIfInBounds_ne (Ne.symm hne)]) (size_setChan ..) rfl rfl rfl ⟨ss, rr + 1, heap_setChan _ _ _ _ _ _ _ _ hlt⟩
        exact ⟨k1, k2, trivial, trivial, hws.1, trivial⟩
    · rename_i cap hi
      simp only [Option.some.injEq, Prod.mk.injEq] at hs
      obtain ⟨rfl, rfl⟩ := hs
      obtain ⟨ss, rr, hc⟩ := r.fits i _ hi
      refine ⟨w, ?_, r, Stp.refl _ _ _, trivial, trivial, (azero_sound (ρ := ρ) hz w (below h.n)).2, trivial⟩
      refine Eq.trans (step_lone_select_default hg hc) ?_
      simp [AV.den, AV.denL, goInt, lone, solo, Conc.G]
  · rename_i i z x hch hz hsend
    have e1 := he.of hch
    obtain ⟨ez, _⟩ := azero_sound (ρ := ρ) hz w (below h.n)
    split at hs
    case h_2 => cases hs
    rename_i cap buf v0 hi hx
    have e2 := he.of hx
    have hrun : (execOp ev { dst, op := .select ⟨[s]⟩ false, type, pos, after, guard }).run P w = .ok (.comm #[scase (ρ i).b (v0.den ρ) (z.den ρ)] false .select) w := by
      simp only [execOp, Sem.run_bind]
      simp [hsend, e1, ez, AV.den, scase, e2]
    obtain ⟨es, hst⟩ := stepG_apply_comm (fr := fr) (cs := cs) hrun
    rw [hst] at hg
    obtain ⟨ss, rr, hc⟩ := r.fits i _ hi
    have hlt := (Array.getElem?_eq_some_iff.1 hc).1
    split at hs
    · rename_i hroom
      simp only [Option.some.injEq, Prod.mk.injEq] at hs
      obtain ⟨rfl, rfl⟩ := hs
      have hst := step_lone_select_send_room hg hc (by simpa using hroom)
      have hws : AV.wsL (below h.n) buf := r.ws i _ hi
      refine ⟨w.setChan (ρ i).b cap ((buf ++ [v0]).map (AV.den ρ)).toArray false (ss + 1) rr false, ?_, ?_⟩
      · refine Eq.trans hst ?_
        simp [AV.den, AV.denL, goInt, lone, solo, Conc.G]
      · obtain ⟨k1, k2⟩ := r.set (w' := w.setChan (ρ i).b cap ((buf ++ [v0]).map (AV.den ρ)).toArray false (ss + 1) rr false) (o' := .chan cap (buf ++ [v0])) hi rfl rfl (wsL_append hws ⟨he.wsOf hx, trivial⟩)
          (fun b hne => by simp only [World.setChan]; rw [Array.getElem?_setIfInBounds_ne (Ne.symm hne)]) (size_setChan ..) rfl rfl rfl ⟨ss + 1, rr, heap_setChan _ _ _ _ _ _ _ _ hlt⟩
        exact ⟨k1, k2, trivial, trivial, trivial⟩
    · rename_i hfull
      simp only [Option.some.injEq, Prod.mk.injEq] at hs
      obtain ⟨rfl, rfl⟩ := hs
      refine ⟨w, ?_, r, Stp.refl _ _ _, trivial, trivial, trivial⟩
      refine Eq.trans (step_lone_select_send_full hg hc (by simpa using hfull)) ?_
      simp [AV.den, AV.denL, goInt, lone, solo, Conc.G]

end
end Go.Sx
namespace Go.Sx
open Go Go.RowKit Go.Conc

/-! ### the machine -/
inductive AExit where
  | normal
  | exit (id : Nat)
  | ret
  deriving DecidableEq

abbrev ARes := Option (AExit × List AV × AHeap)

/-- one operation of a region that runs in its order -/
def aop (P : Program) (call : CallF) (e : Operand → Option AV) (h : AHeap) (o : Oper) : Option (AV × AHeap) :=
  if isAl o.op || isEffOp o.op then aeff P call e h o else (aread P e h o).map fun v => (v, h)

def alist (P : Program) (G : Nat → Option Nat) (call : CallF) (ops : Array Oper) : List Oper → List AV → AHeap → Option (List AV × AHeap)
  | [], t, h => some (t, h)
  | o :: rest, t, h =>
    if Region.wanted o (ayield ops t) then
      match aop P call (aev G t) h o with
      | some (v, h') => alist P G call ops rest (aput t o.dst v) h'
      | none => none
    else alist P G call ops rest (aput t o.dst (.tuple [])) h

def aregion (P : Program) (G : Nat → Option Nat) (call : CallF) (ops : Array Oper) (t : List AV) (h : AHeap) : Option (List AV × AHeap) :=
  match ops.toList with
  | [] => some (t, h)
  | o :: rest =>
    if isSelect o.op then
      if Region.wanted o (ayield ops t) then
        match aselect P (aev G t) h o with
        | some (v, h') => alist P G call ops rest (aput t o.dst v) h'
        | none => none
      else none
    else alist P G call ops (o :: rest) t h

def aloop (body : List AV → AHeap → ARes) : Nat → List AV → AHeap → ARes
  | 0, _, _ => none
  | m + 1, t, h => match body t h with
    | some (.normal, t', h') => aloop body m t' h'
    | r => r

def acodeF (P : Program) (G : Nat → Option Nat) (call : CallF) (n : Nat) (rec : Code → List AV → AHeap → ARes) (c : Code) (t : List AV) (h : AHeap) : ARes :=
  match c with
  | .skip => some (.normal, t, h)
  | .label _ => some (.normal, t, h)
  | .region _ ops draw => match (if draw then adraw P G call ops t h else aregion P G call ops t h) with
    | some (t', h') => some (.normal, t', h')
    | none => none
  | .seq a b => match rec a t h with
    | some (.normal, t', h') => rec b t' h'
    | r => r
  | .cond c x y => match aev G t c with
    | some (.bool true) => rec x t h
    | some (.bool false) => rec y t h
    | _ => none
  | .block id c => match rec c t h with
    | some (.exit i, t', h') => if i = id then some (.normal, t', h') else some (.exit i, t', h')
    | r => r
  | .loop c => aloop (rec c) n t h
  | .exit id => some (.exit id, t, h)
  | .ret => some (.ret, t, h)
  | _ => none

def acode (P : Program) (G : Nat → Option Nat) (call : CallF) (n : Nat) : Code → List AV → AHeap → ARes :=
  Nat.rec (fun _ _ _ => none) (fun n rec => acodeF P G call n rec) n

def aresult (P : Program) (h : AHeap) (t : List AV) : ResultVar → Option AV
  | .tmp x => some (t.getD x (.tuple []))
  | .cell a ty => match t.getD a (.tuple []) with
    | .ptr (some (i, o)) => aload P h ty i o
    | _ => none

def aresultL (P : Program) (h : AHeap) (t : List AV) : List ResultVar → Option (List AV)
  | [] => some []
  | r :: rs => match aresult P h t r, aresultL P h t rs with
    | some v, some vs => some (v :: vs)
    | _, _ => none

def aresults (P : Program) (fn : Func) (h : AHeap) (t : List AV) : Option AV :=
  match aresultL P h t fn.results.toList with
  | some [v] => some v
  | some vs => some (.tuple vs)
  | none => none

def aframe (fn : Func) (args : List AV) : List AV := args ++ List.replicate (fn.ntmps - args.length) (.tuple [])

def acallF (P : Program) (G : Nat → Option Nat) (n : Nat) (call : CallF) (f : FuncId) (args : List AV) (h : AHeap) : Option (AV × AHeap) :=
  match P.funcs[f]? with
  | some fn => match fn.body with
    | some c => match acode P G call n c (aframe fn args) h with
      | some (.normal, t, h') => (aresults P fn h' t).map fun v => (v, h')
      | some (.ret, t, h') => (aresults P fn h' t).map fun v => (v, h')
      | _ => none
    | none => none
  | none => none

/-- `ov`: functions of which something else is known -/
def acall (P : Program) (G : Nat → Option Nat) (ov : FuncId → Option (List AV → AHeap → Option (AV × AHeap))) (n : Nat) : CallF :=
  Nat.rec (fun _ _ _ => none) (fun n call f args h => match ov f with
    | some g => g args h
    | none => acallF P G n call f args h) n

/-! ### what it says is so -/
section
variable {N : Nat} {G : Nat → Option Nat} {ρ ρ' : Env} {h h' : AHeap} {w w' : World} {P : Program} {call : CallF} {t t' : List AV} {a : Act}
  {Q : Exit → Act → World → Prop}

theorem aop_mono (hc : CallOk P N G call) {e : Operand → Option AV} {o : Oper} {v : AV} (hs : aop P call e h o = some (v, h')) : h.n ≤ h'.n := by
  unfold aop at hs
  split at hs
  · exact aeff_mono hc hs
  · rw [Option.map_eq_some_iff] at hs
    obtain ⟨u, _, hq⟩ := hs
    simp only [Prod.mk.injEq] at hq
    rw [← hq.2]; exact Nat.le_refl _

theorem alist_mono (hc : CallOk P N G call) {ops : Array Oper} : ∀ (l : List Oper) (t : List AV) (h : AHeap), alist P G call ops l t h = some (t', h') → h.n ≤ h'.n
  | [], t, h, hs => by simp only [alist, Option.some.injEq, Prod.mk.injEq] at hs; rw [← hs.2]; exact Nat.le_refl _
  | o :: rest, t, h, hs => by
    unfold alist at hs
    split at hs
    · split at hs
      · rename_i v h1 h2
        exact Nat.le_trans (aop_mono hc h2) (alist_mono hc rest _ _ hs)
      · cases hs
    · exact alist_mono hc rest _ _ hs

theorem aop_sound (hc : CallOk P N G call) (r : R N G ρ h w) (x : TR (below h.n) ρ t a) {o : Oper} {v : AV} (hs : aop P call (aev G t) h o = some (v, h'))
    {K : Act → World → Prop} (hK : ∀ ρ' a' w', R N G ρ' h' w' → Stp ρ h w ρ' h' w' → TR (below h'.n) ρ' (aput t o.dst v) a' → K a' w') : o.wp P a w K Q := by
  have he : Evs (aev G t) (evOf ρ t) ρ (below h.n) := Evs.mk (r.globS fun _ hi => hi) x.ws
  unfold Oper.wp
  rw [x.eval]
  unfold aop at hs
  split at hs
  · refine aeff_sound hc r he hs ?_
    intro ρ' w' k1 k2 k3
    exact hK ρ' _ w' k1 k2 ((x.ext k2.ext).mono (fun i hi => Nat.lt_of_lt_of_le hi k2.n) |>.put k3 _)
  · rw [Option.map_eq_some_iff] at hs
    obtain ⟨u, hu, hq⟩ := hs
    simp only [Prod.mk.injEq] at hq
    obtain ⟨rfl, rfl⟩ := hq
    obtain ⟨k1, k2⟩ := aread_sound r (fun _ hi => hi) he hu
    rw [k1, Oper.upon_value]
    exact hK ρ _ w r (Stp.refl _ _ _) (x.put k2 _)

theorem alist_sound (hc : CallOk P N G call) {ops : Array Oper} : ∀ (l : List Oper) (t : List AV) (h : AHeap) (ρ : Env) (a : Act) (w : World), R N G ρ h w → TR (below h.n) ρ t a →
    alist P G call ops l t h = some (t', h') →
    (∀ ρ' a' w', R N G ρ' h' w' → Stp ρ h w ρ' h' w' → TR (below h'.n) ρ' t' a' → Q .normal a' w') → wpList P ops Q l a w
  | [], t, h, ρ, a, w, r, x, hs, hQ => by
    simp only [alist, Option.some.injEq, Prod.mk.injEq] at hs
    obtain ⟨rfl, rfl⟩ := hs
    exact hQ ρ a w r (Stp.refl _ _ _) x
  | o :: rest, t, h, ρ, a, w, r, x, hs, hQ => by
    unfold alist at hs
    unfold wpList
    rw [x.tmps, wanted_eq]
    split at hs
    · rename_i hw
      rw [if_pos hw]
      split at hs
      · rename_i v h1 h2
        refine .inl (aop_sound hc r x h2 ?_)
        intro ρ1 a1 w1 k1 k2 k3
        refine alist_sound hc rest _ _ ρ1 a1 w1 k1 k3 hs ?_
        intro ρ2 a2 w2 q1 q2 q3
        exact hQ ρ2 a2 w2 q1 (k2.trans q2) q3
      · cases hs
    · rename_i hw
      rw [if_neg hw]
      exact alist_sound hc rest _ _ ρ _ w r (x.put (v := .tuple []) trivial _) hs hQ

theorem aregion_mono (hc : CallOk P N G call) {ops : Array Oper} (hs : aregion P G call ops t h = some (t', h')) : h.n ≤ h'.n := by
  unfold aregion at hs
  split at hs
  · simp only [Option.some.injEq, Prod.mk.injEq] at hs; rw [← hs.2]; exact Nat.le_refl _
  · split at hs
    · split at hs
      · split at hs
        · rename_i v h1 h2
          exact Nat.le_trans (aselect_mono h2) (alist_mono hc _ _ _ hs)
        · cases hs
      · cases hs
    · exact alist_mono hc _ _ _ hs

theorem aregion_sound (hc : CallOk P N G call) {id : Nat} {ops : Array Oper} (r : R N G ρ h w) (x : TR (below h.n) ρ t a)
    (hs : aregion P G call ops t h = some (t', h'))
    (hQ : ∀ ρ' a' w', R N G ρ' h' w' → Stp ρ h w ρ' h' w' → TR (below h'.n) ρ' t' a' → Q .normal a' w') : (Code.region id ops false).wp P Q a w := by
  unfold aregion at hs
  split at hs
  · rename_i hl
    simp only [Option.some.injEq, Prod.mk.injEq] at hs
    obtain ⟨rfl, rfl⟩ := hs
    refine wp_region_list ?_
    rw [hl]
    exact hQ ρ a w r (Stp.refl _ _ _) x
  · rename_i o rest hl
    split at hs
    · split at hs
      · rename_i hw
        split at hs
        · rename_i v h1 h2
          intro b k cs
          have ho : ops[0]? = some o := by rw [← Array.getElem?_toList, hl]; rfl
          have hsz : ops.size = rest.length + 1 := by rw [← Array.length_toList, hl]; rfl
          have hr : List.range ops.size = 0 :: List.range' 1 rest.length := by rw [hsz, List.range_eq_range', List.range'_succ]
          have he : Evs (aev G t) (evOf ρ t) ρ (below h.n) := Evs.mk (r.globS fun _ hi => hi) x.ws
          have hg := stepG_op (P := P) (b := b) (k := k) (cs := cs) (w := w) (a := a) (rest := List.range' 1 rest.length) ho (by rw [x.tmps, wanted_eq]; exact hw)
          rw [x.eval] at hg
          obtain ⟨w1, q1, q2, q3, q4⟩ := aselect_step r he h2 (fr := b.at a (.inRegion ops (0 :: List.range' 1 rest.length) :: k)) (cs := cs) hg
          rw [Frame.finish_at, ho] at q1
          have x1 : TR (below h1.n) ρ (aput t o.dst v) (a.put o.dst (v.den ρ)) := (x.mono (fun i hi => Nat.lt_of_lt_of_le hi q3.n)).put q4 _
          have hwp := alist_sound (Q := Q) hc rest _ _ ρ _ w1 q2 x1 hs (fun ρ2 a2 w2 z1 z2 z3 => hQ ρ2 a2 w2 z1 (q3.trans z2) z3)
          rw [← wpOps_eq_wpList rest 1 (by
            intro j
            rw [← Array.getElem?_toList, hl, Nat.add_comm 1 j]; rfl)] at hwp
          obtain ⟨e, a', w', hq, harr⟩ := wp_ops _ _ _ hwp b k cs
          refine ⟨e, a', w', hq, .of_steps (.head step_region (.one ?_)) harr⟩
          rw [hr]
          exact q1
        · cases hs
      · cases hs
    · refine wp_region_list ?_
      rw [hl]
      exact alist_sound hc _ _ _ ρ a w r x hs hQ

/-- what a run of code is -/
def CodeOk (P : Program) (N : Nat) (G : Nat → Option Nat) (run : Code → List AV → AHeap → ARes) : Prop :=
  ∀ c t h e t' h', run c t h = some (e, t', h') → h.n ≤ h'.n ∧ ∀ ρ a w, R N G ρ h w → TR (below h.n) ρ t a → ∀ Q : Exit → Act → World → Prop,
    (∀ ρ' a' w', R N G ρ' h' w' → Stp ρ h w ρ' h' w' → TR (below h'.n) ρ' t' a' →
      Q (match e with | .normal => .normal | .exit id => .exit id | .ret => .ret) a' w') → c.wp P Q a w
end
end Go.Sx
namespace Go.Sx
open Go Go.RowKit Go.Conc

section
variable {N : Nat} {G : Nat → Option Nat} {ρ ρ' : Env} {h h' : AHeap} {w w' : World} {P : Program} {call : CallF} {t t' : List AV} {a : Act}
  {Q : Exit → Act → World → Prop} {ov : FuncId → Option (List AV → AHeap → Option (AV × AHeap))}

theorem aopC_mono (hc : CallOk P N G call) {e : Operand → Option AV} {o : Oper} {c : Cls} {v : AV} (h2 : aopC P call e h o = some (c, v, h')) : h.n ≤ h'.n := by
  unfold aopC at h2
  split at h2
  · rw [Option.map_eq_some_iff] at h2
    obtain ⟨r, hr, hq⟩ := h2
    simp only [Prod.mk.injEq] at hq
    rw [← hq.2.2]
    exact awrite_mono (v := r.1) (h' := r.2) hr
  · split at h2
    · rw [Option.map_eq_some_iff] at h2
      obtain ⟨r, hr, hq⟩ := h2
      simp only [Prod.mk.injEq] at hq
      rw [← hq.2.2]
      exact aeff_mono (v := r.1) (h' := r.2) hc hr
    · rw [Option.map_eq_some_iff] at h2
      obtain ⟨r, hr, hq⟩ := h2
      simp only [Prod.mk.injEq] at hq
      rw [← hq.2.2]
      exact Nat.le_refl _

theorem arunC_mono (hc : CallOk P N G call) {ops : Array Oper} (l : List Nat) : ∀ (t : List AV) (h : AHeap) (rs : List Rec), arunC P G call ops l t h = some (rs, t', h') → h.n ≤ h'.n := by
  induction l with
  | nil => intro t h rs hs; simp only [arunC, Option.some.injEq, Prod.mk.injEq] at hs; rw [← hs.2.2]; exact Nat.le_refl _
  | cons i is ih =>
    intro t h rs hs
    unfold arunC at hs
    simp only at hs
    split at hs
    · split at hs
      · rename_i c v h1 h2
        split at hs
        · rename_i rs1 t1 h3 h4
          simp only [Option.some.injEq, Prod.mk.injEq] at hs
          obtain ⟨_, rfl, rfl⟩ := hs
          exact Nat.le_trans (aopC_mono hc h2) (ih _ _ _ h4)
        · cases hs
      · cases hs
    · split at hs
      · rename_i rs1 t1 h3 h4
        simp only [Option.some.injEq, Prod.mk.injEq] at hs
        obtain ⟨_, rfl, rfl⟩ := hs
        exact ih _ _ _ h4
      · cases hs

theorem adraw_mono (hc : CallOk P N G call) {ops : Array Oper} (hs : adraw P G call ops t h = some (t', h')) : h.n ≤ h'.n := by
  unfold adraw at hs
  split at hs
  · split at hs
    · rename_i rs t1 h1 hr
      split at hs
      · simp only [Option.some.injEq, Prod.mk.injEq] at hs
        obtain ⟨rfl, rfl⟩ := hs
        exact arunC_mono hc _ _ _ _ hr
      · cases hs
    · cases hs
  · cases hs

def AExit.up : AExit → Exit
  | .normal => .normal
  | .exit id => .exit id
  | .ret => .ret

/-- what a run of code is -/
def CodeAt (P : Program) (N : Nat) (G : Nat → Option Nat) (run : List AV → AHeap → ARes) (c : Code) : Prop :=
  ∀ t h e t' h', run t h = some (e, t', h') → h.n ≤ h'.n ∧ ∀ ρ a w, R N G ρ h w → TR (below h.n) ρ t a → ∀ Q : Exit → Act → World → Prop,
    (∀ ρ' a' w', R N G ρ' h' w' → Stp ρ h w ρ' h' w' → TR (below h'.n) ρ' t' a' → Q e.up a' w') → c.wp P Q a w

/-- a loop, round by round -/
theorem aloop_at {c : Code} {body : List AV → AHeap → ARes} (hb : CodeAt P N G body c) :
    ∀ m t h e t' h', aloop body m t h = some (e, t', h') → h.n ≤ h'.n ∧ ∀ ρ a w, R N G ρ h w → TR (below h.n) ρ t a → ∀ Q : Exit → Act → World → Prop,
    (∀ ρ' a' w', R N G ρ' h' w' → Stp ρ h w ρ' h' w' → TR (below h'.n) ρ' t' a' → Q e.up a' w') →
    ∀ b k cs, ∃ e' a' w', Q e' a' w' ∧ Arrives P (lone (b.at a (.code c :: .inLoop c :: k)) cs w) b k cs e' a' w' := by
  intro m
  induction m with
  | zero => intro t h e t' h' hs; simp [aloop] at hs
  | succ m ih =>
    intro t h e t' h' hs
    unfold aloop at hs
    split at hs
    · rename_i t1 h1 h2
      obtain ⟨n1, s1⟩ := hb _ _ _ _ _ h2
      obtain ⟨n2, s2⟩ := ih _ _ _ _ _ hs
      refine ⟨Nat.le_trans n1 n2, ?_⟩
      intro ρ a w r x Q hQ b k cs
      have hwp := s1 ρ a w r x (fun e a' w' => e = .normal ∧ ∃ e' a2 w2, Q e' a2 w2 ∧ Arrives P (lone (b.at a' (.inLoop c :: k)) cs w') b k cs e' a2 w2) (by
        intro ρ1 a1 w1 k1 k2 k3
        refine ⟨rfl, ?_⟩
        obtain ⟨e', a2, w2, q1, q2⟩ := s2 ρ1 a1 w1 k1 k3 Q (fun ρ2 a2 w2 z1 z2 z3 => hQ ρ2 a2 w2 z1 (k2.trans z2) z3) b k cs
        exact ⟨e', a2, w2, q1, .of_steps (.one step_inLoop) q2⟩)
      obtain ⟨e0, a0, w0, ⟨rfl, e', a2, w2, q1, q2⟩, harr⟩ := hwp b (.inLoop c :: k) cs
      exact ⟨e', a2, w2, q1, .of_steps harr q2⟩
    · rename_i hne
      obtain ⟨n1, s1⟩ := hb _ _ _ _ _ hs
      refine ⟨n1, ?_⟩
      intro ρ a w r x Q hQ b k cs
      have hen : e ≠ .normal := fun he => by subst he; exact hne _ _ hs
      have hwp := s1 ρ a w r x (fun e' a' w' => e' = e.up ∧ Q e' a' w') (fun ρ' a' w' k1 k2 k3 => ⟨rfl, hQ ρ' a' w' k1 k2 k3⟩)
      obtain ⟨e0, a0, w0, ⟨rfl, q1⟩, harr⟩ := hwp b (.inLoop c :: k) cs
      refine ⟨_, a0, w0, q1, .pass (x := .inLoop c) rfl (fun _ _ => .inl ?_) harr⟩
      cases e <;> simp_all [AExit.up]

theorem acodeF_at (hm : P.follows .mixedOrders = true) (hc : CallOk P N G call) {n : Nat} {rec : Code → List AV → AHeap → ARes} (hr : ∀ c, CodeAt P N G (rec c) c) (c : Code) :
    CodeAt P N G (acodeF P G call n rec c) c := by
  intro t h e t' h' hs
  unfold acodeF at hs
  split at hs
  · simp only [Option.some.injEq, Prod.mk.injEq] at hs
    obtain ⟨rfl, rfl, rfl⟩ := hs
    exact ⟨Nat.le_refl _, fun ρ a w r x Q hQ => wp_skip (hQ ρ a w r (Stp.refl _ _ _) x)⟩
  · simp only [Option.some.injEq, Prod.mk.injEq] at hs
    obtain ⟨rfl, rfl, rfl⟩ := hs
    exact ⟨Nat.le_refl _, fun ρ a w r x Q hQ => wp_label (hQ ρ a w r (Stp.refl _ _ _) x)⟩
  · rename_i ops draw
    split at hs
    · rename_i t1 h1 hq
      simp only [Option.some.injEq, Prod.mk.injEq] at hs
      obtain ⟨rfl, rfl, rfl⟩ := hs
      cases draw with
      | true => exact ⟨adraw_mono hc hq, fun ρ a w r x Q hQ => adraw_sound hm hc r x hq hQ⟩
      | false => exact ⟨aregion_mono hc hq, fun ρ a w r x Q hQ => aregion_sound hc r x hq hQ⟩
    · cases hs
  · rename_i x y
    split at hs
    · rename_i t1 h1 h2
      obtain ⟨n1, s1⟩ := hr x _ _ _ _ _ h2
      obtain ⟨n2, s2⟩ := hr y _ _ _ _ _ hs
      refine ⟨Nat.le_trans n1 n2, fun ρ a w r z Q hQ => wp_seq (s1 ρ a w r z _ ?_)⟩
      intro ρ1 a1 w1 k1 k2 k3
      exact s2 ρ1 a1 w1 k1 k3 Q (fun ρ2 a2 w2 z1 z2 z3 => hQ ρ2 a2 w2 z1 (k2.trans z2) z3)
    · rename_i hne
      obtain ⟨n1, s1⟩ := hr x _ _ _ _ _ hs
      refine ⟨n1, fun ρ a w r z Q hQ => wp_seq (s1 ρ a w r z _ ?_)⟩
      intro ρ1 a1 w1 k1 k2 k3
      have hq := hQ ρ1 a1 w1 k1 k2 k3
      have hen : e ≠ .normal := fun he => by subst he; exact hne _ _ hs
      cases e with
      | normal => exact absurd rfl hen
      | exit id => exact hq
      | ret => exact hq
  · rename_i c x y
    have hcond : ∀ b, aev G t c = some (.bool b) → ∀ ρ a w, R N G ρ h w → TR (below h.n) ρ t a → a.eval c = .bool b := by
      intro b hb ρ a w r z
      have he : Evs (aev G t) (evOf ρ t) ρ (below h.n) := Evs.mk (r.globS fun _ hi => hi) z.ws
      rw [z.eval]
      exact he.of hb
    split at hs
    · rename_i hb
      obtain ⟨n1, s1⟩ := hr x _ _ _ _ _ hs
      exact ⟨n1, fun ρ a w r z Q hQ => wp_cond_true (hcond _ hb ρ a w r z) (s1 ρ a w r z Q hQ)⟩
    · rename_i hb
      obtain ⟨n1, s1⟩ := hr y _ _ _ _ _ hs
      exact ⟨n1, fun ρ a w r z Q hQ => wp_cond_false (hcond _ hb ρ a w r z) (s1 ρ a w r z Q hQ)⟩
    · cases hs
  · rename_i id c
    split at hs
    · rename_i i t1 h1 h2
      obtain ⟨n1, s1⟩ := hr c _ _ _ _ _ h2
      split at hs
      · rename_i hi
        simp only [Option.some.injEq, Prod.mk.injEq] at hs
        obtain ⟨rfl, rfl, rfl⟩ := hs
        refine ⟨n1, fun ρ a w r z Q hQ => wp_block (s1 ρ a w r z _ ?_)⟩
        intro ρ1 a1 w1 k1 k2 k3
        show Exit.inBlock id Q (.exit i) a1 w1
        simp only [Exit.inBlock, hi, if_true]
        exact hQ ρ1 a1 w1 k1 k2 k3
      · rename_i hi
        simp only [Option.some.injEq, Prod.mk.injEq] at hs
        obtain ⟨rfl, rfl, rfl⟩ := hs
        refine ⟨n1, fun ρ a w r z Q hQ => wp_block (s1 ρ a w r z _ ?_)⟩
        intro ρ1 a1 w1 k1 k2 k3
        show Exit.inBlock id Q (.exit i) a1 w1
        simp only [Exit.inBlock, hi, if_false]
        exact hQ ρ1 a1 w1 k1 k2 k3
    · rename_i hne
      obtain ⟨n1, s1⟩ := hr c _ _ _ _ _ hs
      refine ⟨n1, fun ρ a w r z Q hQ => wp_block (s1 ρ a w r z _ ?_)⟩
      intro ρ1 a1 w1 k1 k2 k3
      have hq := hQ ρ1 a1 w1 k1 k2 k3
      cases e with
      | normal => exact hq
      | exit i => exact absurd hs (hne _ _ _)
      | ret => exact hq
  · rename_i c
    obtain ⟨n1, s1⟩ := aloop_at (hr c) n _ _ _ _ _ hs
    refine ⟨n1, fun ρ a w r z Q hQ b k cs => ?_⟩
    obtain ⟨e', a', w', q1, q2⟩ := s1 ρ a w r z Q hQ b k cs
    exact ⟨e', a', w', q1, .of_steps (.one step_loop) q2⟩
  · simp only [Option.some.injEq, Prod.mk.injEq] at hs
    obtain ⟨rfl, rfl, rfl⟩ := hs
    exact ⟨Nat.le_refl _, fun ρ a w r x Q hQ => wp_exit (hQ ρ a w r (Stp.refl _ _ _) x)⟩
  · simp only [Option.some.injEq, Prod.mk.injEq] at hs
    obtain ⟨rfl, rfl, rfl⟩ := hs
    exact ⟨Nat.le_refl _, fun ρ a w r x Q hQ => wp_ret (hQ ρ a w r (Stp.refl _ _ _) x)⟩
  · cases hs

theorem acode_at (hm : P.follows .mixedOrders = true) (hc : CallOk P N G call) : ∀ (n : Nat) (c : Code), CodeAt P N G (acode P G call n c) c
  | 0, c => fun t h e t' h' hs => by simp [acode] at hs
  | n + 1, c => acodeF_at (rec := acode P G call n) hm hc (acode_at hm hc n) c

/-- one result -/
def resOf (tm : Array Value) : ResultVar → Sem Value
  | .tmp x => pure (tm.getD x undef)
  | .cell a ty => do loadVar ty (← asAddr (tm.getD a undef))

theorem results_eq (fn : Func) (tm : Array Value) : results fn tm = (do
    let vs ← fn.results.toList.mapM (resOf tm)
    pure (if h : vs.toArray.size = 1 then vs.toArray[0] else .tuple vs.toArray)) := by
  unfold results
  rw [Array.mapM_eq_mapM_toList]
  simp
  congr 2
  funext x
  cases x <;> simp [resOf]

theorem aresult_sound (r : R N G ρ h w) (hw : AV.wsL (below h.n) t) {rv : ResultVar} {v : AV} (hs : aresult P h t rv = some v) :
    (resOf (AV.denL ρ t).toArray rv).run P w = .ok (v.den ρ) w ∧ v.ws (below h.n) := by
  cases rv with
  | tmp x =>
    simp only [aresult, Option.some.injEq] at hs
    subst hs
    exact ⟨by simp only [resOf, Sem.run_pure, getD_den], ws_getD hw x⟩
  | cell a ty =>
    simp only [aresult] at hs
    split at hs
    · rename_i i o hq
      obtain ⟨k1, k2⟩ := aload_sound r hs
      refine ⟨?_, k2⟩
      simp only [resOf, getD_den, hq, AV.den, Sem.run_bind, asAddr, Sem.run_pure, Result.andThen_ok, k1]
    · cases hs

theorem aresultL_sound (r : R N G ρ h w) (hw : AV.wsL (below h.n) t) : ∀ (l : List ResultVar) (vs : List AV), aresultL P h t l = some vs →
    (l.mapM (resOf (AV.denL ρ t).toArray)).run P w = .ok (AV.denL ρ vs) w ∧ AV.wsL (below h.n) vs
  | [], vs, hs => by
    simp only [aresultL, Option.some.injEq] at hs
    subst hs
    exact ⟨by simp [AV.denL], trivial⟩
  | rv :: rs, vs, hs => by
    unfold aresultL at hs
    split at hs
    · rename_i v us hv hus
      simp only [Option.some.injEq] at hs
      subst hs
      obtain ⟨k1, k2⟩ := aresult_sound r hw hv
      obtain ⟨q1, q2⟩ := aresultL_sound r hw rs us hus
      refine ⟨?_, k2, q2⟩
      simp [k1, q1, AV.denL]
    · cases hs

theorem aresults_sound (r : R N G ρ h w) (hw : AV.wsL (below h.n) t) {fn : Func} {v : AV} (hs : aresults P fn h t = some v) :
    (results fn (AV.denL ρ t).toArray).run P w = .ok (v.den ρ) w ∧ v.ws (below h.n) := by
  have hl : ∀ vs, aresultL P h t fn.results.toList = some vs → (results fn (AV.denL ρ t).toArray).run P w = .ok (if h : (AV.denL ρ vs).toArray.size = 1 then (AV.denL ρ vs).toArray[0] else .tuple (AV.denL ρ vs).toArray) w ∧ AV.wsL (below h.n) vs := by
    intro vs hv
    obtain ⟨k1, k2⟩ := aresultL_sound r hw _ _ hv
    refine ⟨?_, k2⟩
    rw [results_eq, Sem.run_bind, k1, Result.andThen_ok, Sem.run_pure]
  unfold aresults at hs
  split at hs
  · rename_i u hu
    simp only [Option.some.injEq] at hs
    subst hs
    obtain ⟨k1, k2⟩ := hl _ hu
    exact ⟨by rw [k1]; rfl, k2.1⟩
  · rename_i vs hne hv
    simp only [Option.some.injEq] at hs
    subst hs
    obtain ⟨k1, k2⟩ := hl _ hv
    refine ⟨?_, k2⟩
    rw [k1, dif_neg]
    · rfl
    · intro hsz
      match vs, hsz with
      | [u], _ => exact hne u rfl
      | [], hsz => simp [AV.denL] at hsz
      | a :: b :: l, hsz => simp [AV.denL] at hsz
  · cases hs

theorem aframe_tr {fn : Func} {args : List AV} (hw : AV.wsL (below h.n) args) :
    TR (below h.n) ρ (aframe fn args) { tmps := (AV.denL ρ args).toArray ++ Array.replicate (fn.ntmps - (AV.denL ρ args).toArray.size) undef, defers := [] } := by
  refine ⟨?_, rfl, ?_⟩
  · apply Array.ext'
    simp [aframe, denL_map, AV.den, undef]
  · refine wsL_append hw ?_
    rw [wsL_iff]
    intro v hv
    rw [List.eq_of_mem_replicate hv]
    trivial

theorem acallF_ok (hm : P.follows .mixedOrders = true) (hc : CallOk P N G call) (n : Nat) : CallOk P N G (acallF P G n call) := by
  have key : ∀ f args h v h', acallF P G n call f args h = some (v, h') → ∃ fn c e t, P.funcs[f]? = some fn ∧ fn.body = some c ∧ acode P G call n c (aframe fn args) h = some (e, t, h') ∧ (e = .normal ∨ e = .ret) ∧ aresults P fn h' t = some v := by
    intro f args h v h' hs
    unfold acallF at hs
    split at hs
    · rename_i fn hfn
      split at hs
      · rename_i c hb
        split at hs
        · rename_i t h1 hq
          rw [Option.map_eq_some_iff] at hs
          obtain ⟨u, hu, he⟩ := hs
          simp only [Prod.mk.injEq] at he
          obtain ⟨rfl, rfl⟩ := he
          exact ⟨fn, c, _, t, hfn, hb, hq, .inl rfl, hu⟩
        · rename_i t h1 hq
          rw [Option.map_eq_some_iff] at hs
          obtain ⟨u, hu, he⟩ := hs
          simp only [Prod.mk.injEq] at he
          obtain ⟨rfl, rfl⟩ := he
          exact ⟨fn, c, _, t, hfn, hb, hq, .inr rfl, hu⟩
        · cases hs
      · cases hs
    · cases hs
  constructor
  · intro f args h v h' hs
    obtain ⟨fn, c, e, t, _, _, hq, _, _⟩ := key _ _ _ _ _ hs
    exact (acode_at hm hc n c _ _ _ _ _ hq).1
  · intro f args h v h' hs ρ w r hw
    obtain ⟨fn, c, e, t, hfn, hb, hq, he, hr⟩ := key _ _ _ _ _ hs
    refine calls_of_wp hfn hb ?_
    refine (acode_at hm hc n c _ _ _ _ _ hq).2 ρ _ w r (aframe_tr hw) _ ?_
    intro ρ' a' w' k1 k2 k3
    obtain ⟨q1, q2⟩ := aresults_sound k1 k3.ws hr
    have : bodyPost P fn (fun e w' => ∃ ρ', e = Ending.returned (v.den ρ') ∧ R N G ρ' h' w' ∧ Stp ρ h w ρ' h' w' ∧ v.ws (below h'.n)) .normal a' w' :=
      ⟨k3.defers, _, by rw [k3.tmps]; exact q1, ρ', rfl, k1, k2, q2⟩
    rcases he with rfl | rfl
    · exact this
    · exact this

theorem acall_ok (hm : P.follows .mixedOrders = true)
    (hov : ∀ f g, ov f = some g → CallOk P N G (fun f' args h => if f' = f then g args h else none)) : ∀ n, CallOk P N G (acall P G ov n)
  | 0 => ⟨fun f args h v h' hs => by simp [acall] at hs, fun f args h v h' hs => by simp [acall] at hs⟩
  | n + 1 => by
    have ih := acall_ok hm hov n
    have hF := acallF_ok hm ih n
    have key : ∀ f args h, acall P G ov (n + 1) f args h = (match ov f with | some g => g args h | none => acallF P G n (acall P G ov n) f args h) := fun _ _ _ => rfl
    constructor
    · intro f args h v h' hs
      rw [key] at hs
      split at hs
      · rename_i g hg
        exact (hov f g hg).mono f args h v h' (by rw [if_pos rfl]; exact hs)
      · exact hF.mono _ _ _ _ _ hs
    · intro f args h v h' hs
      rw [key] at hs
      split at hs
      · rename_i g hg
        exact (hov f g hg).sound f args h v h' (by rw [if_pos rfl]; exact hs)
      · exact hF.sound _ _ _ _ _ hs
end
end Go.Sx
namespace Go.Sx
open Go Go.RowKit Go.Conc

section
variable {N : Nat} {G : Nat → Option Nat} {ρ ρ' : Env} {h h' : AHeap} {w w' : World} {P : Program} {call : CallF} {t t' : List AV} {a : Act}
  {Q : Exit → Act → World → Prop} {ov : FuncId → Option (List AV → AHeap → Option (AV × AHeap))}

/-- nothing that was there is written -/
theorem Stp.all (s : Stp ρ h w ρ' h' w') (hro : ∀ i o, h.get i = some o → o.own = false) : Below w.heap.size w w' :=
  ⟨s.os, s.tape, s.output, s.size, fun b hb => s.keep b hb fun ⟨i, o, hi, ho, _⟩ => by rw [hro i o hi] at ho; cases ho⟩

theorem R.kept (r : R N G ρ h w) (hb : Below w.heap.size w w') : R N G ρ h w' ∧ Stp ρ h w ρ h w' := by
  refine ⟨⟨r.lt, r.ws, ?_, r.low, r.high, r.apart, Nat.le_trans r.base hb.size, r.glob⟩, ⟨Ext.refl _ _, Nat.le_refl _, hb.os, hb.tape, hb.output, hb.size, fun b h => .inl h, fun b hb' _ => hb.block b hb'⟩⟩
  intro i o hi
  have hf := r.fits i o hi
  cases o with
  | dead => trivial
  | cells c ro esz =>
    cases ro with
    | true =>
      intro j v hj
      have hl := r.low i _ hi rfl
      have := hf j v hj
      simp only [World.cell?, pAddr] at this ⊢
      rw [hb.block _ (Nat.lt_of_lt_of_le hl r.base)]
      exact this
    | false =>
      have hl := r.block_lt hi (by simp [AObj.own, AObj.live, AObj.ro])
      obtain ⟨cs, E, fz, h1, h2⟩ := hf
      exact ⟨cs, E, fz, by rw [hb.block _ hl]; exact h1, h2⟩
  | map es =>
    have hl := r.block_lt hi rfl
    obtain ⟨ents, clk, h1, h2⟩ := hf
    exact ⟨ents, clk, by rw [hb.block _ hl]; exact h1, h2⟩
  | chan cap buf =>
    have hl := r.block_lt hi rfl
    obtain ⟨s, q, h1⟩ := hf
    exact ⟨s, q, by rw [hb.block _ hl]; exact h1⟩

mutual
theorem closed_ws : ∀ (v : AV), v.closed = true → ∀ S, v.ws S
  | .bool _, _, _ => trivial
  | .int _ _, _, _ => trivial
  | .str _, _, _ => trivial
  | .ptr none, _, _ => trivial
  | .ptr (some _), h, _ => by simp [AV.closed] at h
  | .slice none _ _ _ _, _, _ => trivial
  | .slice (some _) _ _ _ _, h, _ => by simp [AV.closed] at h
  | .map none, _, _ => trivial
  | .map (some _), h, _ => by simp [AV.closed] at h
  | .chan none, _, _ => trivial
  | .chan (some _), h, _ => by simp [AV.closed] at h
  | .func _ a b, h, S => by
    simp only [AV.closed, Bool.and_eq_true] at h
    exact ⟨closedL_ws a h.1 S, closedL_ws b h.2 S⟩
  | .nilFunc, _, _ => trivial
  | .iface _ v, h, S => closed_ws v h S
  | .nilIface, _, _ => trivial
  | .agg l, h, S => closedL_ws l h S
  | .tuple l, h, S => closedL_ws l h S
theorem closedL_ws : ∀ (l : List AV), AV.closedL l = true → ∀ S, AV.wsL S l
  | [], _, _ => trivial
  | v :: vs, h, S => by
    simp only [AV.closedL, Bool.and_eq_true] at h
    exact ⟨closed_ws v h.1 S, closedL_ws vs h.2 S⟩
end

/-! ### a memory that is only read -/
def roFrom (h : AHeap) : List (List AV) → AHeap
  | [] => h
  | c :: cs => roFrom (h.alloc (.cells c true 1)) cs
def roH (objs : List (List AV)) : AHeap := roFrom ⟨0, .leaf⟩ objs

theorem roFrom_n : ∀ (objs : List (List AV)) (h : AHeap), (roFrom h objs).n = h.n + objs.length
  | [], h => rfl
  | c :: cs, h => by rw [roFrom, roFrom_n cs]; simp [AHeap.n_alloc]; omega

theorem roFrom_get : ∀ (objs : List (List AV)) (h : AHeap) (i : Nat), (roFrom h objs).get i = if i < h.n then h.get i else match objs[i - h.n]? with | some c => some (.cells c true 1) | none => h.get i
  | [], h, i => by simp only [roFrom, List.getElem?_nil, ite_self]
  | c :: cs, h, i => by
    rw [roFrom, roFrom_get cs, AHeap.n_alloc]
    by_cases h1 : i < h.n
    · rw [if_pos (by omega), if_pos h1, AHeap.get_alloc_ne _ _ (by omega)]
    · rw [if_neg h1]
      by_cases h2 : i = h.n
      · subst h2
        rw [if_pos (by omega), AHeap.get_alloc_self]
        simp
      · rw [if_neg (by omega), show i - h.n = (i - (h.n + 1)) + 1 by omega, List.getElem?_cons_succ]
        split
        · rfl
        · rename_i hc; exact AHeap.get_alloc_ne _ _ h2

theorem roH_n (objs : List (List AV)) : (roH objs).n = objs.length := by simp [roH, roFrom_n]
theorem roH_get (objs : List (List AV)) (i : Nat) : (roH objs).get i = (objs[i]?).map (.cells · true 1) := by
  unfold roH
  rw [roFrom_get]
  rw [if_neg (Nat.not_lt_zero _)]
  show (match objs[i]? with | some c => some (AObj.cells c true 1) | none => none) = _
  cases objs[i]? <;> rfl

theorem R.ofRo {objs : List (List AV)} (hws : ∀ c ∈ objs, AV.wsL (below objs.length) c) (hfit : ∀ (i : Nat) (c : List AV), objs[i]? = some c → ∀ (j : Nat) v, c[j]? = some v → w.cell? (pAddr ρ i j) = some (v.den ρ))
    (hlow : ∀ i, i < objs.length → (ρ i).b < N) (hN : N ≤ w.heap.size) (hglob : ∀ g i, G g = some i → i < objs.length ∧ (ρ i).b = g ∧ (ρ i).o = 0 ∧ (ρ i).sp = none) : R N G ρ (roH objs) w := by
  have key : ∀ i o, (roH objs).get i = some o → ∃ c, objs[i]? = some c ∧ o = .cells c true 1 := by
    intro i o hi
    rw [roH_get, Option.map_eq_some_iff] at hi
    obtain ⟨c, hc, rfl⟩ := hi
    exact ⟨c, hc, rfl⟩
  refine ⟨?_, ?_, ?_, ?_, ?_, ?_, hN, by rw [roH_n]; exact hglob⟩
  · intro i o hi
    obtain ⟨c, hc, _⟩ := key i o hi
    rw [roH_n]; exact (List.getElem?_eq_some_iff.1 hc).1
  · intro i o hi
    obtain ⟨c, hc, rfl⟩ := key i o hi
    rw [roH_n]; exact hws c (List.mem_of_getElem? hc)
  · intro i o hi
    obtain ⟨c, hc, rfl⟩ := key i o hi
    exact hfit i c hc
  · intro i o hi _
    obtain ⟨c, hc, rfl⟩ := key i o hi
    exact hlow i (List.getElem?_eq_some_iff.1 hc).1
  · intro i o hi ho
    obtain ⟨c, hc, rfl⟩ := key i o hi
    simp [AObj.own, AObj.live, AObj.ro] at ho
  · intro i j o p hi hj _ ho
    obtain ⟨c, hc, rfl⟩ := key i o hi
    simp [AObj.own, AObj.live, AObj.ro] at ho

theorem roH_own (objs : List (List AV)) : ∀ i o, (roH objs).get i = some o → o.own = false := by
  intro i o hi
  rw [roH_get, Option.map_eq_some_iff] at hi
  obtain ⟨c, hc, rfl⟩ := hi
  simp [AObj.own, AObj.live, AObj.ro]

/-- A LAW, from the machine's answer -/
theorem law_of_run {objs : List (List AV)} {f : FuncId} {args : List AV} {b : Bool} {h1 : AHeap} (hc : CallOk P N G call) (r : R N G ρ (roH objs) w) (hw : AV.wsL (below objs.length) args)
    (hrun : call f args (roH objs) = some (.bool b, h1)) :
    Calls P f (AV.denL ρ args).toArray w fun e w' => e = .returned (.bool b) ∧ Below w.heap.size w w' := by
  refine (hc.sound f args _ _ _ hrun ρ w r (by rw [roH_n]; exact hw)).mono ?_
  rintro e w' ⟨ρ', rfl, _, s, _⟩
  exact ⟨rfl, s.all (roH_own objs)⟩

/-! ### a closed call, once run -/
def hasRo (objs : List (List AV)) (h : AHeap) : Bool :=
  (List.range objs.length).all fun i => match h.get i with
    | some (.cells c true _) => AV.beqL c (objs.getD i [])
    | _ => false

def ovClosed (objs : List (List AV)) (v : AV) (args : List AV) (h : AHeap) : Option (AV × AHeap) :=
  match args with
  | [] => if hasRo objs h then some (v, h) else none
  | _ => none

theorem CallOk.closed {objs : List (List AV)} {f : FuncId} {v : AV} {h1 : AHeap} (hc : CallOk P N G call) (hG : ∀ g i, G g = some i → i < objs.length)
    (hcl : ∀ c ∈ objs, ∀ v ∈ c, v.closed = true) (hv : v.closed = true) (hrun : call f [] (roH objs) = some (v, h1)) :
    CallOk P N G (fun f' args h => if f' = f then ovClosed objs v args h else none) := by
  have key : ∀ f' args h u h', (if f' = f then ovClosed objs v args h else none) = some (u, h') → f' = f ∧ args = [] ∧ u = v ∧ h' = h ∧ hasRo objs h = true := by
    intro f' args h u h' hs
    split at hs
    · rename_i hf
      unfold ovClosed at hs
      split at hs
      · split at hs
        · rename_i hh
          simp only [Option.some.injEq, Prod.mk.injEq] at hs
          exact ⟨hf, rfl, hs.1.symm, hs.2.symm, hh⟩
        · cases hs
      · cases hs
    · cases hs
  constructor
  · intro f' args h u h' hs
    obtain ⟨_, _, _, rfl, _⟩ := key _ _ _ _ _ hs
    exact Nat.le_refl _
  · intro f' args h u h' hs ρ w r hw
    obtain ⟨rfl, rfl, rfl, rfl, hh⟩ := key _ _ _ _ _ hs
    have hget : ∀ (i : Nat) (c : List AV), objs[i]? = some c → ∃ e, h'.get i = some (.cells c true e) := by
      intro i c hi
      have hlt := (List.getElem?_eq_some_iff.1 hi).1
      have := List.all_eq_true.1 hh i (List.mem_range.2 hlt)
      split at this
      · rename_i c' e hg
        have := AV.beqL_eq _ _ this
        rw [List.getD_eq_getElem?_getD, hi] at this
        exact ⟨e, by rw [hg, this]; rfl⟩
      · cases this
    have r0 : R N G ρ (roH objs) w := by
      refine R.ofRo ?_ ?_ ?_ r.base ?_
      · intro c hc
        rw [wsL_iff]
        intro v hv
        exact closed_ws v (hcl c hc v hv) _
      · intro i c hi j v hj
        obtain ⟨e, hg⟩ := hget i c hi
        exact r.fits i _ hg j v hj
      · intro i hi
        obtain ⟨e, hg⟩ := hget i _ (List.getElem?_eq_getElem hi)
        exact r.low i _ hg rfl
      · intro g i hg
        exact ⟨hG g i hg, (r.glob g i hg).2⟩
    refine (hc.sound f' [] _ _ _ hrun ρ w r0 trivial).mono ?_
    rintro e w' ⟨ρ', rfl, _, s, _⟩
    obtain ⟨k1, k2⟩ := r.kept (s.all (roH_own objs))
    exact ⟨ρ, by rw [den_closed ρ' ρ u hv], k1, k2, closed_ws u hv _⟩
end
end Go.Sx
