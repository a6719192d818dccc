/- YtlbgokakghchiaaDoorSx6: texts of one's own, merged: SxRow, SxRes, SxMono, SxWalk, SxWalk2, SxV1, SxV2. -/
import Derived.Test.YtlbgokakghchiaaDoorSx5
import Derived.ProofKit
import Derived.LaidLaws
import Derived.Handed
import Derived.JoinedOf
import Derived.Carry
import Derived.OpenShut
set_option linter.all false
namespace Go.Sx
open Go Go.RowKit Go.ChangeShapes Go.WideShapes

/-- what a listed array of whole numbers holds -/
theorem ints_of_laid {P : Program} {W : World} {name : String} {k : IntKind} {ns : List Int} {rest : List (String × DataW Unit)} {g : Nat} {t e : TypeId} {ps : List MemPlace}
    (h : DataW.LaidVars P W ((name, .agg (ns.map fun x => .lit (.int k x))) :: rest) ps) (hg : P.globalNamed name = some g) (ht : (P.globals[g]?).map (·.type) = some t)
    (hu : P.underlying t = some (.array ns.length e)) (he : P.underlying e = some (.int k)) (hc : P.cellsOf e = 1) :
    (∀ j x, ns[j]? = some x → W.cell? ⟨g, j, none⟩ = some (.int k x)) ∧ ∃ qs, DataW.LaidVars P W rest qs := by
  obtain ⟨g', t', cs, fuel, p, q, hg', ht', hvar, hd, hr, _⟩ := h
  obtain rfl := Option.some.inj (hg.symm.trans hg')
  obtain rfl := Option.some.inj (ht.symm.trans ht')
  refine ⟨?_, q, hr⟩
  obtain ⟨xs, m, _, hx, hlen, hn, hel⟩ := DataW.trod_array hu hd
  obtain ⟨hx1, _⟩ := Prod.mk.inj hx
  simp only [DataW.agg.injEq] at hx1
  intro j x hj
  have hjl := (List.getElem?_eq_some_iff.1 hj).1
  have h1 := hel j hjl
  rw [hc, Nat.mul_one] at h1
  have h2 : (xs.map (·.1))[j]? = some (.lit (.int k x)) := by rw [← hx1, List.getElem?_map, hj]; rfl
  rw [List.getElem?_map] at h2
  cases hxj : xs[j]? with
  | none => rw [hxj] at h2; simp at h2
  | some y =>
    rw [hxj] at h2 h1
    simp only [Option.map_some, Option.some.injEq] at h2
    obtain ⟨s, hcs, hy, _⟩ := DataW.trod_int he h1
    obtain ⟨hs, _⟩ := Prod.mk.inj hy
    rw [World.var?_cell hg hvar j]
    have h3 : s = x := by
      rw [h2] at hs
      simp only [DataW.lit.injEq, Lit.int.injEq, true_and] at hs
      exact hs.symm
    subst h3
    have h4 : ((cs.toList.drop j).take 1)[0]? = some (Value.int k s) := by rw [hcs]; rfl
    rw [List.getElem?_take] at h4
    simp at h4
    simpa using h4

/-- the arguments read as they did -/
theorem trodAll_kept {H : Type} {enc : TypeId × Value → H} {P : Program} (hl : laidOutB P = true) {W W' : World} (hb : Below W.heap.size W W') :
    ∀ {ts : List TypeId} {vs : List Value} {ds : List (DataW H)} {ps : List MemPlace}, (∀ t ∈ ts, P.readableRec t = true ∧ t < P.types.size) →
    DataW.TrodAll enc P W 0 (fun _ => true) true ts vs ds ps → DataW.TrodAll enc P W' 0 (fun b => decide (b < W.heap.size)) true ts vs ds ps
  | [], vs, ds, ps, _, h => by
    obtain ⟨rfl, rfl, rfl⟩ := trodAll_nil h
    exact rfl
  | t :: ts, vs, ds, ps, hr, h => by
    have hlt := DataW.TrodAll.lt h
    obtain ⟨v, vs1, d, ds1, a, b, rfl, rfl, rfl, h1, h2⟩ := trodAll_cons h
    obtain ⟨q1, q2⟩ := hr t (List.mem_cons_self ..)
    exact ⟨a, b, Below.trod hl q1 q2 h1 hb (fun x hx => hlt x (List.mem_append_left _ hx)), trodAll_kept hl hb (fun u hu => hr u (List.mem_cons_of_mem _ hu)) h2, rfl⟩

/-- THE ROW's CONDITION, of a law that is true and leaves memory as it was -/
theorem law_post {H : Type} {enc : TypeId × Value → H} {P : Program} {fn : Func} {s : ChangeSpec} {W W' : World} {args : Array Value} {ds gs : List (DataW H)} {before : List MemPlace} {tb : TypeId}
    (hl : laidOutB P = true) (hr : ∀ t ∈ fn.params.toList, P.readableRec t = true ∧ t < P.types.size) (hres : fn.resultTypes = #[tb]) (hb : P.underlying tb = some .bool) (hv : s.vars = [])
    (hfn : ∀ ds : List (DataW H), ds.length = fn.params.size → s.fn H ds = { results := [.lit (.bool true)], args := ds })
    (hW : DataW.Whole enc P fn.params.toList s.vars false W args.toList ds gs before) (hk : Below W.heap.size W W') :
    s.post enc P fn false true false false W args (.bool true) W' := by
  have hW' := hW
  obtain ⟨p, q, hA, hV, rfl, _⟩ := hW
  rw [hv] at hV
  obtain ⟨rfl, rfl⟩ : gs = [] ∧ q = [] := by
    cases gs with
    | nil => exact ⟨rfl, hV⟩
    | cons g r => exact absurd hV (by intro h; cases h)
  have hlen : ds.length = fn.params.size := by
    have : ∀ {ts : List TypeId} {vs : List Value} {ds : List (DataW H)} {ps : List MemPlace}, DataW.TrodAll enc P W 0 (fun _ => true) true ts vs ds ps → ds.length = ts.length := by
      intro ts
      induction ts with
      | nil => intro vs ds ps h; obtain ⟨_, rfl, _⟩ := trodAll_nil h; rfl
      | cons t ts ih =>
        intro vs ds ps h
        obtain ⟨v, vs1, d, ds1, a, b, rfl, rfl, rfl, h1, h2⟩ := trodAll_cons h
        simp [ih h2]
    rw [this hA]; simp
  have e1 := hfn (ds ++ []) (by simpa using hlen)
  refine ⟨ds, [], _, [], p, [], hW', ?_, ?_, ?_, hk.frame _, fun h => by cases h⟩
  · rw [e1, hres]
    exact trodAll_mk1 (shut_bool hb true)
  · rw [e1, List.append_nil]
    exact trodAll_kept hl hk hr hA
  · rw [e1, hv]; rfl
end Go.Sx
namespace Go.Sx
open Go Go.RowKit

/-- whole numbers: what an operation makes of two -/
def rint (op : BinOp) (k : IntKind) (a : Int) (k' : IntKind) (b : Int) : Option AV :=
  match op with
  | .shl => if b < 0 then none else some (.int k (k.wrap (a * 2 ^ (min b.toNat k.bits))))
  | .shr => if b < 0 then none else some (.int k (a.fdiv (2 ^ (min b.toNat k.bits))))
  | .add => if k = k' then some (.int k (k.wrap (a + b))) else none
  | .sub => if k = k' then some (.int k (k.wrap (a - b))) else none
  | .mul => if k = k' then some (.int k (k.wrap (a * b))) else none
  | .quo => if k = k' then if b = 0 then none else some (.int k (k.wrap (a.tdiv b))) else none
  | .rem => if k = k' then if b = 0 then none else some (.int k (a.tmod b)) else none
  | .and => if k = k' then some (.int k (k.wrap (BitVec.ofInt k.bits a &&& BitVec.ofInt k.bits b).toNat)) else none
  | .or => if k = k' then some (.int k (k.wrap (BitVec.ofInt k.bits a ||| BitVec.ofInt k.bits b).toNat)) else none
  | .xor => if k = k' then some (.int k (k.wrap (BitVec.ofInt k.bits a ^^^ BitVec.ofInt k.bits b).toNat)) else none
  | .andNot => if k = k' then some (.int k (k.wrap (BitVec.ofInt k.bits a &&& ~~~BitVec.ofInt k.bits b).toNat)) else none
  | .eql => if k = k' then some (.bool (a == b)) else none
  | .neq => if k = k' then some (.bool (a != b)) else none
  | .lss => if k = k' then some (.bool (a < b)) else none
  | .leq => if k = k' then some (.bool (a ≤ b)) else none
  | .gtr => if k = k' then some (.bool (a > b)) else none
  | .geq => if k = k' then some (.bool (a ≥ b)) else none

theorem prun_program {α : Type} (P : Program) (k : Program → Sem α) : prun P (program >>= k) = prun P (k P) := rfl
theorem prun_pure {α : Type} (P : Program) (a : α) : prun P (pure a : Sem α) = some a := rfl

theorem prun_bind {α β : Type} {P : Program} {k : α → Sem β} : ∀ (s : Sem α) (a : α), prun P s = some a → prun P (s >>= k) = prun P (k a)
  | .pure a, b, h => by simp only [prun, Option.some.injEq] at h; subst h; rfl
  | .program j, b, h => by simp only [prun] at h; exact prun_bind (j P) b h
  | .mark _ j, b, h => by simp only [prun] at h; exact prun_bind j b h
  | .load .., _, h => by simp [prun] at h
  | .store .., _, h => by simp [prun] at h
  | .new .., _, h => by simp [prun] at h
  | .shape .., _, h => by simp [prun] at h
  | .freeze .., _, h => by simp [prun] at h
  | .frozen .., _, h => by simp [prun] at h
  | .getObj .., _, h => by simp [prun] at h
  | .setObj .., _, h => by simp [prun] at h
  | .choose .., _, h => by simp [prun] at h
  | .sys .., _, h => by simp [prun] at h
  | .halt _, _, h => by simp [prun] at h
theorem depth_succ : ∃ m, Op.maxDepth = m + 1 := ⟨Op.maxDepth - 1, by decide⟩
theorem prun_equal_ptr {P : Program} {t el : TypeId} (hu : P.underlying t = some (.pointer el)) : prun P (Op.equal t (.pointer none) (.pointer none)) = some true := by
  unfold Op.equal
  obtain ⟨m, hm⟩ := depth_succ
  rw [hm]
  unfold Op.equalIn
  simp only [underlying, bind_assoc, prun_program, hu, pure_bind]
  rfl
theorem prun_equal_slice {P : Program} {t el : TypeId} {a b c d : Nat} (hu : P.underlying t = some (.slice el)) : prun P (Op.equal t (.slice none a b) (.slice none c d)) = some true := by
  unfold Op.equal
  obtain ⟨m, hm⟩ := depth_succ
  rw [hm]
  unfold Op.equalIn
  simp only [underlying, bind_assoc, prun_program, hu, pure_bind]
  rfl
theorem prun_equal_map {P : Program} {t k el : TypeId} (hu : P.underlying t = some (.map k el)) : prun P (Op.equal t (.map none) (.map none)) = some true := by
  unfold Op.equal
  obtain ⟨m, hm⟩ := depth_succ
  rw [hm]
  unfold Op.equalIn
  simp only [underlying, bind_assoc, prun_program, hu, pure_bind]
  rfl
theorem prun_equal_chan {P : Program} {t el : TypeId} {dir : ChanDir} (hu : P.underlying t = some (.chan dir el)) : prun P (Op.equal t (.chan none) (.chan none)) = some true := by
  unfold Op.equal
  obtain ⟨m, hm⟩ := depth_succ
  rw [hm]
  unfold Op.equalIn
  simp only [underlying, bind_assoc, prun_program, hu, pure_bind]
  rfl
/-- equality of two nils -/
theorem prun_nils {P : Program} {t : TypeId} {x y : Operand} {a b : Value} {neg : Bool} (hab : (∃ c d, a = .pointer c ∧ b = .pointer d) ∨ (∃ p q r s, a = .slice none p q ∧ b = .slice none r s) ∨ (a = .map none ∧ b = .map none) ∨ (a = .chan none ∧ b = .chan none))
    (he : prun P (Op.equal t a b) = some true) :
    prun P (do let v ← (do eqGuard (if neg then .neq else .eql) t x y a b; Go.binOp (if neg then .neq else .eql) t a b); pure (Next.value v)) = some (.value (.bool (true != neg))) := by
  have h1 : prun P (eqGuard (if neg then .neq else .eql) t x y a b) = some () := by
    rcases hab with ⟨_, _, rfl, rfl⟩ | ⟨_, _, _, _, rfl, rfl⟩ | ⟨rfl, rfl⟩ | ⟨rfl, rfl⟩ <;> cases neg <;> rfl
  have h2 : prun P (Go.binOp (if neg then .neq else .eql) t a b) = some (.bool (true != neg)) := by
    rcases hab with ⟨_, _, rfl, rfl⟩ | ⟨_, _, _, _, rfl, rfl⟩ | ⟨rfl, rfl⟩ | ⟨rfl, rfl⟩ <;> cases neg <;> exact (prun_bind _ _ he).trans rfl
  refine (prun_bind _ _ ((prun_bind _ _ h1).trans h2)).trans rfl

theorem anil_int (P : Program) (t : TypeId) (k k' : IntKind) (a b : Int) : anil P t (.int k a) (.int k' b) = none := by
  unfold anil
  split <;> first | rfl | (simp_all; done) | skip
  all_goals (rename_i h1 h2 h3; first | cases h2 | cases h3)

theorem prun_int (P : Program) (op : BinOp) (t : TypeId) (x y : Operand) (k k' : IntKind) (a b : Int) :
    (match prun P (do let v ← (do eqGuard op t x y (.int k a) (.int k' b); Go.binOp op t (.int k a) (.int k' b)); pure (Next.value v)) with
     | some (.value v) => ofV v
     | _ => none) = rint op k a k' b := by
  cases op <;> simp [eqGuard, Go.binOp, rint, Op.intArith, Op.intBits, Op.intCmp, Op.intDiv, Op.shift]
  all_goals (by_cases hk : k = k' <;> by_cases hb : b = 0 <;> by_cases hb' : b < 0 <;> simp only [hk, hb, hb', if_true, if_false, ↓reduceIte] <;> first | rfl | (simp_all; done) | skip)

inductive NK where
  | ptr
  | slice
  | map
  | chan

/-- an operation with what the types say worked out; `o`: the operation itself, where the shape is another -/
inductive ROp where
  | mv (x : Operand)
  | pick (c a b : Operand)
  | load1 (x : Operand)
  | loadN (n : Nat) (x : Operand)
  | nilc (x : Operand)
  | fadr (off : Nat) (x : Operand)
  | iadrA (n esz : Nat) (x ix : Operand)
  | iadrS (esz : Nat) (x ix : Operand)
  | part1 (off : Nat) (x : Operand)
  | partN (off n : Nat) (x : Operand)
  | ext (x : Operand) (k : Nat)
  | bin (op : BinOp) (x y : Operand)
  | notB (x : Operand)
  | toInt (k : IntKind) (x : Operand)
  | lenS (x : Operand)
  | store (n : Nat) (a x : Operand)
  | box (x : Operand)
  | alloc (z : AV)
  | callF (f : FuncId) (args : List Operand)
  | negI (x : Operand)
  | isnil (k : NK) (neg : Bool) (x : Operand)
  | gen (o : Oper)

def rop (P : Program) (call : CallF) (e : Operand → Option AV) (h : AHeap) : ROp → Option (AV × AHeap)
  | .mv x => (e x).map (·, h)
  | .pick c a b => match e c, e a, e b with
    | some (.bool t), some x, some y => some (if t then x else y, h)
    | _, _, _ => none
  | .load1 x => match e x with
    | some (.ptr (some (i, off))) => (cellAt h i off).map (·, h)
    | _ => none
  | .loadN n x => match e x with
    | some (.ptr (some (i, off))) => (cellsAt h i off n).map fun cs => (.agg cs, h)
    | _ => none
  | .nilc x => match e x with
    | some (.ptr (some p)) => some (.ptr (some p), h)
    | _ => none
  | .fadr off x => match e x with
    | some (.ptr (some (i, off0))) => some (.ptr (some (i, off0 + off)), h)
    | _ => none
  | .iadrA n esz x ix => match e x, e ix with
    | some (.ptr (some (i, off))), some (.int _ k) => if 0 ≤ k ∧ k < n then some (.ptr (some (i, off + k.toNat * esz)), h) else none
    | _, _ => none
  | .iadrS esz x ix => match e x, e ix with
    | some (.slice (some (i, off)) len _ none _), some (.int _ k) => if 0 ≤ k ∧ k < len then some (.ptr (some (i, off + k.toNat * esz)), h) else none
    | _, _ => none
  | .part1 off x => match e x with
    | some (.agg cs) => (cs[off]?).map (·, h)
    | _ => none
  | .partN off n x => match e x with
    | some (.agg cs) => some (.agg ((cs.drop off).take n), h)
    | _ => none
  | .ext x k => match e x with
    | some (.tuple vs) => (vs[k]?).map (·, h)
    | _ => none
  | .bin op x y => match e x, e y with
    | some (.int k a), some (.int k' b) => (rint op k a k' b).map (·, h)
    | _, _ => none
  | .notB x => match e x with
    | some (.bool b) => some (.bool !b, h)
    | _ => none
  | .toInt k x => match e x with
    | some (.int _ n) => some (.int k (k.wrap n), h)
    | _ => none
  | .lenS x => match e x with
    | some (.slice _ n _ _ _) => some (.int .i64 n, h)
    | _ => none
  | .store n a x => match e a, e x with
    | some (.ptr (some (i, off))), some v => if v.cells.length = n then (aput? h i off v.cells).map fun h' => (.tuple [], h') else none
    | _, _ => none
  | .box x => (e x).map fun v => (.ptr (some (h.n, 0)), h.alloc (.cells v.cells false 1))
  | .alloc z => some (.ptr (some (h.n, 0)), h.alloc (.cells z.cells false 1))
  | .callF f args => match aops e args with
    | some as => if acallable P f then call f as h else none
    | none => none
  | .negI x => match e x with
    | some (.int k n) => some (.int k (k.wrap (0 - n)), h)
    | _ => none
  | .isnil k neg x => match k, e x with
    | .ptr, some (.ptr a) => some (.bool (a.isNone != neg), h)
    | .slice, some (.slice a _ _ _ _) => some (.bool (a.isNone != neg), h)
    | .map, some (.map a) => some (.bool (a.isNone != neg), h)
    | .chan, some (.chan a) => some (.bool (a.isNone != neg), h)
    | _, _ => none
  | .gen o => aop P call e h o

/-- is that the nil of such a type? -/
def nilOf : Option TypeDesc → Operand → Option NK
  | some (.pointer _), .const (.pointer none) => some .ptr
  | some (.slice _), .const (.slice none _ _) => some .slice
  | some (.map _ _), .const (.map none) => some .map
  | some (.chan _ _), .const (.chan none) => some .chan
  | _, _ => none

def rsize (P : Program) (t : TypeId) : Option (Bool × Nat) :=
  match P.underlying t, P.info? t with
  | some d, some inf => some (isAggD d, inf.size)
  | _, _ => none

def isInt (P : Program) (t : TypeId) : Option IntKind :=
  match P.underlying t with
  | some (.int k) => some k
  | _ => none

def rsv (P : Program) (o : Oper) : ROp :=
  match o.op with
  | .move x | .assign x => .mv x
  | .pick c a b => .pick c a b
  | .load t x => match rsize P t with
    | some (false, _) => .load1 x
    | some (true, n) => .loadN n x
    | none => .gen o
  | .nilCheck x => .nilc x
  | .fieldAddr s x f => match afieldAt P s (.ptr (some (0, 0))) f with
    | some (.ptr (some (_, off))) => .fadr off x
    | _ => .gen o
  | .indexAddr t x ix => match P.underlying t with
    | some (.array n el) => match P.info? el with
      | some inf => .iadrA n inf.size x ix
      | none => .gen o
    | some (.slice el) => match P.info? el with
      | some inf => .iadrS inf.size x ix
      | none => .gen o
    | _ => .gen o
  | .extract x k => .ext x k
  | .binOp op t x y _ => match isInt P t with
    | some _ => .bin op x y
    | none => match nilOf (P.underlying t) y, op with
      | some k, .eql => .isnil k false x
      | some k, .neq => .isnil k true x
      | _, _ => .gen o
  | .unOp .not _ x => .notB x
  | .unOp .neg _ x => .negI x
  | .convert src dst x => match isInt P src, isInt P dst with
    | some _, some k => .toInt k x
    | _, _ => .gen o
  | .alloc el => match azero P el with
    | some z => .alloc z
    | none => .gen o
  | .box _ x => .box x
  | .call { callee := .value (.func f), args, .. } => .callF f args.toList
  | _ => .gen o

theorem rsv_ok (P : Program) (call : CallF) (e : Operand → Option AV) (h : AHeap) (o : Oper) (he : ∀ f, e (.func f) = some (.func f [] [])) (hk : ∀ v, e (.const v) = ofV v) (res : AV × AHeap) (hs : rop P call e h (rsv P o) = some res) : aop P call e h o = some res := by
  obtain ⟨dst, op, type, pos, after, guard⟩ := o
  cases op with
  | move x => simpa [rsv, rop, aop, isAl, isEffOp, aread] using hs
  | assign x => simpa [rsv, rop, aop, isAl, isEffOp, aread] using hs
  | pick c a b =>
    simp only [rsv, rop] at hs
    split at hs
    · rename_i t x y hc ha hb
      simp only [aop, isAl, isEffOp, aread, hc, ha, hb, Bool.or_self, Bool.false_eq_true, if_false, Option.map_some]
      exact hs
    · cases hs
  | load t x =>
    have hl : ∀ a off, aload P h t a off = match rsize P t with
        | some (false, _) => cellAt h a off
        | some (true, n) => (cellsAt h a off n).map .agg
        | none => none := by
      intro a off
      unfold aload rsize
      split
      · rename_i d inf hd hi
        cases hq : isAggD d <;> simp [hd, hi, hq]
      · rename_i hne
        split
        · rename_i hh; split at hh
          · rename_i d inf hd hi; exact absurd hi (hne _ _ hd)
          · cases hh
        · rename_i hh; split at hh
          · rename_i d inf hd hi; exact absurd hi (hne _ _ hd)
          · cases hh
        · rfl
    simp only [rsv] at hs
    split at hs
    · rename_i hr
      simp only [rop] at hs
      split at hs
      · rename_i i off hx
        simp only [aop, isAl, isEffOp, aread, hx, hl, hr, Bool.or_self, Bool.false_eq_true, if_false]
        exact hs
      · cases hs
    · rename_i hr
      simp only [rop] at hs
      split at hs
      · rename_i i off hx
        simp only [aop, isAl, isEffOp, aread, hx, hl, hr, Bool.or_self, Bool.false_eq_true, if_false, Option.map_map]
        exact hs
      · cases hs
    · exact hs
  | nilCheck x =>
    simp only [rsv, rop] at hs
    split at hs
    · rename_i p hx
      simp only [aop, isAl, isEffOp, aread, hx, Bool.or_self, Bool.false_eq_true, if_false, Option.map_some]
      exact hs
    · cases hs
  | fieldAddr s x f =>
    have hf : ∀ i o off, afieldAt P s (.ptr (some (0, 0))) f = some (.ptr (some (o, off))) → ∀ off0, afieldAt P s (.ptr (some (i, off0))) f = some (.ptr (some (i, off0 + off))) := by
      intro i o off hs off0
      unfold afieldAt at hs ⊢
      split at hs
      · rename_i fields i' o' hu hp
        simp only [AV.ptr.injEq, Option.some.injEq, Prod.mk.injEq] at hp
        obtain ⟨rfl, rfl⟩ := hp
        simp only [hu]
        split at hs
        · rename_i fd hfd
          split at hs
          · rename_i inf hi
            split at hs
            · cases hs
            · rename_i hz
              rw [if_neg hz]
              simp only [Option.some.injEq, AV.ptr.injEq, Prod.mk.injEq, Nat.zero_add] at hs
              rw [← hs.2]
          · cases hs
        · cases hs
      · cases hs
    simp only [rsv] at hs
    split at hs
    · rename_i o off hr
      simp only [rop] at hs
      split at hs
      · rename_i i off0 hx
        simp only [aop, isAl, isEffOp, aread, hx, hf i o off hr, Bool.or_self, Bool.false_eq_true, if_false, Option.map_some]
        exact hs
      · cases hs
    · exact hs
  | indexAddr t x ix =>
    simp only [rsv] at hs
    split at hs
    · rename_i n el hu
      split at hs
      · rename_i inf hi
        simp only [rop] at hs
        split at hs
        · rename_i i off k kk hx hix
          simp only [aop, isAl, isEffOp, aread, aindexAt, hx, hix, hu, hi, Bool.or_self, Bool.false_eq_true, if_false]
          split at hs <;> simp_all
        · cases hs
      · exact hs
    · rename_i el hu
      split at hs
      · rename_i inf hi
        simp only [rop] at hs
        split at hs
        · rename_i i off len cap op k kk hx hix
          simp only [aop, isAl, isEffOp, aread, aindexAt, hx, hix, hu, hi, Bool.or_self, Bool.false_eq_true, if_false]
          split at hs <;> simp_all
        · cases hs
      · exact hs
    · exact hs
  | extract x k =>
    simp only [rsv, rop] at hs
    simp only [aop, isAl, isEffOp, aread, Bool.or_self, Bool.false_eq_true, if_false]
    rcases hx : e x with _ | v
    · rw [hx] at hs; cases hs
    · rw [hx] at hs
      cases v <;> first | (cases hs; done) | exact hs
  | binOp op t x y yt =>
    simp only [rsv] at hs
    split at hs
    case h_2 =>
      have key : ∀ k neg, nilOf (P.underlying t) y = some k → op = (if neg then .neq else .eql) → rop P call e h (.isnil k neg x) = some res → aop P call e h { dst, op := .binOp op t x y yt, type, pos, after, guard } = some res := by
        intro k neg hn hop hr
        have hap : ∀ v, e x = some v → v.closed = true → ∀ c w, e y = some c → c.closed = true → prun P (do let v ← (do eqGuard op t x y (v.den ρ0) (c.den ρ0); Go.binOp op t (v.den ρ0) (c.den ρ0)); pure (Next.value v)) = some (.value w) →
            apure P e { dst, op := .binOp op t x y yt, type, pos, after, guard } = ofV w := by
          intro v hx hv c w hy hc hp
          have hall : (((Op.binOp op t x y yt).operands.toList.all fun z => oclosed (e z)) && !isSelect (Op.binOp op t x y yt)) = true := by
            simp [Op.operands, hx, hy, oclosed, hv, hc, isSelect]
          unfold apure
          rw [if_pos hall]
          simp only [execOp, hx, hy, oden]
          erw [hp]
        simp only [rop] at hr
        unfold nilOf at hn
        have hneg : ∀ r : Bool, aneg op r = some (.bool (r != neg)) := by
          intro r; subst hop; cases neg <;> cases r <;> rfl
        have fin : ∀ (v c : AV) (r : Bool), e x = some v → e y = some c → some (AV.bool (r != neg), h) = some res → (anil P t v c = some r ∨ (anil P t v c = none ∧ apure P e { dst, op := .binOp op t x y yt, type, pos, after, guard } = some (.bool (r != neg)))) →
            aop P call e h { dst, op := .binOp op t x y yt, type, pos, after, guard } = some res := by
          intro v c r hx hy hr' hd
          rw [← hr']
          rcases hd with hd | ⟨hd, hp⟩
          · simp only [aop, isAl, isEffOp, aread, hx, hy, hd, hneg, Bool.or_self, Bool.false_eq_true, if_false, Option.map_some]
          · simp only [aop, isAl, isEffOp, aread, hx, hy, hd, hp, Bool.or_self, Bool.false_eq_true, if_false, Option.map_some]
        split at hn
        · rename_i el hu
          cases hn
          split at hr
          all_goals first | (cases hr; done) | skip
          all_goals first | (rename_i h0 _; cases h0; done) | (rename_i h0; cases h0; done) | skip
          · rename_i a _ hx
            have hy : e (.const (.pointer none)) = some (.ptr none) := hk (.pointer none)
            refine fin _ _ _ hx hy hr ?_
            cases a with
            | some p => exact .inl (by simp only [anil, hu]; rfl)
            | none =>
              refine .inr ⟨by simp only [anil, hu], ?_⟩
              subst hop
              exact hap _ hx rfl _ _ hy rfl (prun_nils (.inl ⟨_, _, rfl, rfl⟩) (prun_equal_ptr hu))
        · rename_i el p q hu
          cases hn
          split at hr
          all_goals first | (cases hr; done) | skip
          all_goals first | (rename_i h0 _; cases h0; done) | (rename_i h0; cases h0; done) | skip
          · rename_i a l0 c0 z0 o0 _ hx
            have hy : e (.const (.slice none p q)) = some (.slice none p q none false) := hk (.slice none p q)
            refine fin _ _ _ hx hy hr ?_
            cases a with
            | some p => exact .inl (by simp only [anil, hu]; rfl)
            | none =>
              refine .inr ⟨by simp only [anil, hu], ?_⟩
              subst hop
              exact hap _ hx rfl _ _ hy rfl (prun_nils (.inr (.inl ⟨_, _, _, _, rfl, rfl⟩)) (prun_equal_slice hu))
        · rename_i kt el hu
          cases hn
          split at hr
          all_goals first | (cases hr; done) | skip
          all_goals first | (rename_i h0 _; cases h0; done) | (rename_i h0; cases h0; done) | skip
          · rename_i a _ hx
            have hy : e (.const (.map none)) = some (.map none) := hk (.map none)
            refine fin _ _ _ hx hy hr ?_
            cases a with
            | some p => exact .inl (by simp only [anil, hu]; rfl)
            | none =>
              refine .inr ⟨by simp only [anil, hu], ?_⟩
              subst hop
              exact hap _ hx rfl _ _ hy rfl (prun_nils (.inr (.inr (.inl ⟨rfl, rfl⟩))) (prun_equal_map hu))
        · rename_i dir el hu
          cases hn
          split at hr
          all_goals first | (cases hr; done) | skip
          all_goals first | (rename_i h0 _; cases h0; done) | (rename_i h0; cases h0; done) | skip
          · rename_i a _ hx
            have hy : e (.const (.chan none)) = some (.chan none) := hk (.chan none)
            refine fin _ _ _ hx hy hr ?_
            cases a with
            | some p => exact .inl (by simp only [anil, hu]; rfl)
            | none =>
              refine .inr ⟨by simp only [anil, hu], ?_⟩
              subst hop
              exact hap _ hx rfl _ _ hy rfl (prun_nils (.inr (.inr (.inr ⟨rfl, rfl⟩))) (prun_equal_chan hu))
        · cases hn
      split at hs
      · rename_i k hn; exact key _ false hn rfl hs
      · rename_i k hn; exact key _ true hn rfl hs
      · exact hs
    simp only [rop] at hs
    split at hs
    · rename_i k a k' b hx hy
      simp only [aop, isAl, isEffOp, aread, hx, hy, anil_int, Bool.or_self, Bool.false_eq_true, if_false]
      rw [← hs]
      congr 1
      have hall : (((Op.binOp op t x y yt).operands.toList.all fun z => oclosed (e z)) && !isSelect (Op.binOp op t x y yt)) = true := by
        simp [Op.operands, hx, hy, oclosed, AV.closed, isSelect]
      unfold apure
      rw [if_pos hall, ← prun_int P op t x y k k' a b]
      simp only [execOp, hx, hy, oden, AV.den]
      rfl
    · cases hs
  | unOp op t x =>
    have hun : ∀ v, e x = some v → v.closed = true → aread P e h { dst, op := .unOp op t x, type, pos, after, guard } = (match prun P (do let u ← Op.unary op (v.den ρ0); pure (Next.value u)) with | some (.value u) => ofV u | _ => none) := by
      intro v hx hv
      have hall : (((Op.unOp op t x).operands.toList.all fun z => oclosed (e z)) && !isSelect (Op.unOp op t x)) = true := by
        simp [Op.operands, hx, oclosed, hv, isSelect]
      simp only [aread]
      unfold apure
      rw [if_pos hall]
      simp only [execOp, hx, oden]
      rfl
    cases op with
    | not =>
      simp only [rsv, rop] at hs
      split at hs
      · rename_i b hx
        simp only [aop, isAl, isEffOp, hun _ hx rfl, Bool.or_self, Bool.false_eq_true, if_false]
        exact hs
      · cases hs
    | neg =>
      simp only [rsv, rop] at hs
      split at hs
      · rename_i k n hx
        simp only [aop, isAl, isEffOp, hun _ hx rfl, Bool.or_self, Bool.false_eq_true, if_false]
        exact hs
      · cases hs
    | _ => exact hs
  | convert src dst' x =>
    simp only [rsv] at hs
    split at hs
    case h_2 => exact hs
    rename_i k0 k h1 h2
    have u1 : P.underlying src = some (.int k0) := by
      unfold isInt at h1; split at h1
      · rename_i q hq; cases h1; exact hq
      · cases h1
    have u2 : P.underlying dst' = some (.int k) := by
      unfold isInt at h2; split at h2
      · rename_i q hq; cases h2; exact hq
      · cases h2
    simp only [rop] at hs
    split at hs
    · rename_i k1 n hx
      have hall : (((Op.convert src dst' x).operands.toList.all fun z => oclosed (e z)) && !isSelect (Op.convert src dst' x)) = true := by
        simp [Op.operands, hx, oclosed, AV.closed, isSelect]
      have hap : apure P e { dst, op := .convert src dst' x, type, pos, after, guard } = some (.int k (k.wrap n)) := by
        unfold apure
        rw [if_pos hall]
        simp only [execOp, hx, oden, AV.den]
        have hc : (do let v ← Go.convert src dst' (Value.int k1 n); pure (Next.value v) : Sem Next) = (do let v ← Go.convert src dst' (Value.int k1 n); pure (Next.value v)) := rfl
        simp only [Go.convert, Conv.intToInt]
        simp [underlying, prun_program, u1, u2, prun_pure, ofV]
      simp only [aop, isAl, isEffOp, aread, hx, aconv, u1, hap, Bool.or_self, Bool.false_eq_true, if_false]
      exact hs
    · cases hs
  | alloc el =>
    simp only [rsv] at hs
    split at hs
    · rename_i z hz
      simp only [aop, isAl, isEffOp, aeff, awrite, hz, Bool.true_or, Bool.or_true, if_true, Bool.or_false]
      exact hs
    · exact hs
  | box t x =>
    simp only [rsv, rop] at hs
    simp only [aop, isAl, isEffOp, aeff, awrite, Bool.true_or, if_true, Bool.or_false]
    rcases hx : e x with _ | v
    · rw [hx] at hs; cases hs
    · rw [hx] at hs; exact hs
  | call c =>
    obtain ⟨callee, args, argTypes⟩ := c
    cases callee with
    | value f =>
      cases f with
      | func f =>
        simp only [rsv, rop] at hs
        simp only [aop, isAl, isEffOp, aeff, he, Bool.or_true, if_true, Bool.true_or, Bool.or_false]
        rcases ha : aops e args.toList with _ | as
        · rw [ha] at hs; cases hs
        · rw [ha] at hs
          simpa using hs
      | _ => exact hs
    | _ => exact hs
  | _ => exact hs
end Go.Sx
namespace Go.Sx
open Go Go.RowKit

def Le (c c' : CallF) : Prop := ∀ f a h r, c f a h = some r → c' f a h = some r
def LeR (b b' : List AV → AHeap → ARes) : Prop := ∀ t h r, b t h = some r → b' t h = some r

section
variable {P : Program} {G : Nat → Option Nat} {call call' : CallF} {ov : FuncId → Option (List AV → AHeap → Option (AV × AHeap))}

theorem aeff_le (hl : Le call call') {e : Operand → Option AV} {h : AHeap} {o : Oper} {r : AV × AHeap} (hs : aeff P call e h o = some r) : aeff P call' e h o = some r := by
  unfold aeff at hs ⊢
  split at hs
  · rename_i f args argTypes hop
    split at hs
    · rename_i fn first cap as hf has
      try simp only [hop, hf, has]
      split at hs
      · rename_i hc
        rw [if_pos hc]
        exact hl _ _ _ _ hs
      · cases hs
    · cases hs
  · exact hs

theorem aop_le (hl : Le call call') {e : Operand → Option AV} {h : AHeap} {o : Oper} {r : AV × AHeap} (hs : aop P call e h o = some r) : aop P call' e h o = some r := by
  unfold aop at hs ⊢
  split at hs
  · rename_i hc; rw [if_pos hc]; exact aeff_le hl hs
  · rename_i hc; rw [if_neg hc]; exact hs

theorem aopC_le (hl : Le call call') {e : Operand → Option AV} {h : AHeap} {o : Oper} {r : Cls × AV × AHeap} (hs : aopC P call e h o = some r) : aopC P call' e h o = some r := by
  unfold aopC at hs ⊢
  split at hs
  · rename_i hc; rw [if_pos hc]; exact hs
  · rename_i hc
    rw [if_neg hc]
    split at hs
    · rename_i hc2
      rw [if_pos hc2]
      rw [Option.map_eq_some_iff] at hs ⊢
      obtain ⟨q, hq, he⟩ := hs
      exact ⟨q, aeff_le hl hq, he⟩
    · rename_i hc2; rw [if_neg hc2]; exact hs

theorem alist_le (hl : Le call call') {ops : Array Oper} : ∀ (l : List Oper) (t : List AV) (h : AHeap) (r : List AV × AHeap), alist P G call ops l t h = some r → alist P G call' ops l t h = some r
  | [], t, h, r, hs => hs
  | o :: rest, t, h, r, hs => by
    unfold alist at hs ⊢
    split at hs
    · rename_i hw
      rw [if_pos hw]
      split at hs
      · rename_i v h' hq
        rw [aop_le hl hq]
        exact alist_le hl rest _ _ _ hs
      · cases hs
    · rename_i hw
      rw [if_neg hw]
      exact alist_le hl rest _ _ _ hs

theorem arunC_le (hl : Le call call') {ops : Array Oper} : ∀ (l : List Nat) (t : List AV) (h : AHeap) (r : List Rec × List AV × AHeap), arunC P G call ops l t h = some r → arunC P G call' ops l t h = some r
  | [], t, h, r, hs => hs
  | i :: is, t, h, r, hs => by
    unfold arunC at hs ⊢
    simp only at hs ⊢
    split at hs
    · rename_i hw
      rw [if_pos hw]
      split at hs
      · rename_i c v h' hq
        rw [aopC_le hl hq]
        simp only
        split at hs
        · rename_i rs t' h'' hr
          rw [arunC_le hl is _ _ _ hr]
          exact hs
        · cases hs
      · cases hs
    · rename_i hw
      rw [if_neg hw]
      split at hs
      · rename_i rs t' h'' hr
        rw [arunC_le hl is _ _ _ hr]
        exact hs
      · cases hs

theorem adraw_le (hl : Le call call') {ops : Array Oper} {t : List AV} {h : AHeap} {r : List AV × AHeap} (hs : adraw P G call ops t h = some r) : adraw P G call' ops t h = some r := by
  unfold adraw at hs ⊢
  split at hs
  · rename_i hst
    rw [if_pos hst]
    split at hs
    · rename_i rs t' h' hr
      rw [arunC_le hl _ _ _ _ hr]
      exact hs
    · cases hs
  · cases hs

theorem aregion_le (hl : Le call call') {ops : Array Oper} {t : List AV} {h : AHeap} {r : List AV × AHeap} (hs : aregion P G call ops t h = some r) : aregion P G call' ops t h = some r := by
  unfold aregion at hs ⊢
  split at hs
  · exact hs
  · rename_i o rest ho
    try simp only [ho]
    split at hs
    · rename_i hsel
      rw [if_pos hsel]
      split at hs
      · rename_i hw
        rw [if_pos hw]
        split at hs
        · rename_i v h' hq
          try simp only [hq]
          exact alist_le hl _ _ _ _ hs
        · cases hs
      · cases hs
    · rename_i hsel
      rw [if_neg hsel]
      exact alist_le hl _ _ _ _ hs

theorem aloop_le {b b' : List AV → AHeap → ARes} (hl : LeR b b') : ∀ (m m' : Nat), m ≤ m' → LeR (aloop b m) (aloop b' m')
  | 0, _, _, t, h, r, hs => by simp [aloop] at hs
  | m + 1, 0, hm, t, h, r, hs => by omega
  | m + 1, m' + 1, hm, t, h, r, hs => by
    unfold aloop at hs ⊢
    split at hs
    · rename_i t' h' hq
      rw [hl _ _ _ hq]
      exact aloop_le hl m m' (by omega) _ _ _ hs
    · rename_i hne
      rw [hl _ _ _ hs]
      split
      · rename_i t' h' hq
        simp only [Option.some.injEq] at hq
        subst hq
        exact absurd hs (hne _ _)
      · rfl

theorem acodeF_le (hl : Le call call') {n n' : Nat} (hn : n ≤ n') {rec rec' : Code → List AV → AHeap → ARes} (hr : ∀ c, LeR (rec c) (rec' c)) (c : Code) : LeR (acodeF P G call n rec c) (acodeF P G call' n' rec' c) := by
  intro t h r hs
  cases c with
  | region id ops draw =>
    simp only [acodeF] at hs ⊢
    split at hs
    · rename_i t' h' hq
      have : (if draw then adraw P G call' ops t h else aregion P G call' ops t h) = some (t', h') := by
        cases draw with
        | true => exact adraw_le hl hq
        | false => exact aregion_le hl hq
      rw [this]
      exact hs
    · cases hs
  | seq a b =>
    simp only [acodeF] at hs ⊢
    split at hs
    · rename_i t' h' hq
      rw [hr _ _ _ _ hq]
      exact hr _ _ _ _ hs
    · rename_i hne
      rw [hr _ _ _ _ hs]
      split
      · rename_i t' h' hq
        simp only [Option.some.injEq] at hq
        subst hq
        exact absurd hs (hne _ _)
      · rfl
  | cond c x y =>
    simp only [acodeF] at hs ⊢
    split at hs
    · rename_i hq; exact hr _ _ _ _ hs
    · rename_i hq; exact hr _ _ _ _ hs
    · cases hs
  | block id c =>
    simp only [acodeF] at hs ⊢
    split at hs
    · rename_i i t' h' hq
      rw [hr _ _ _ _ hq]
      exact hs
    · rename_i hne
      rw [hr _ _ _ _ hs]
      split
      · rename_i i t' h' hq
        simp only [Option.some.injEq] at hq
        subst hq
        exact absurd hs (hne _ _ _)
      · rfl
  | loop c => exact aloop_le (hr c) n n' hn _ _ _ hs
  | _ => exact hs

theorem acode_le (hl : Le call call') : ∀ {n n' : Nat}, n ≤ n' → ∀ c, LeR (acode P G call n c) (acode P G call' n' c)
  | 0, _, _, c, t, h, r, hs => by simp [acode] at hs
  | n + 1, 0, hn, c, t, h, r, hs => by omega
  | n + 1, n' + 1, hn, c, t, h, r, hs => acodeF_le (rec := acode P G call n) (rec' := acode P G call' n') hl (by omega) (fun c => acode_le hl (by omega) c) c t h r hs

theorem acallF_le (hl : Le call call') {n n' : Nat} (hn : n ≤ n') : Le (acallF P G n call) (acallF P G n' call') := by
  intro f a h r hs
  unfold acallF at hs ⊢
  split at hs
  · rename_i fn hfn
    split at hs
    · rename_i c hb
      try simp only [hb]
      split at hs
      · rename_i t h' hq
        rw [acode_le hl hn _ _ _ _ hq]
        exact hs
      · rename_i t h' hq
        rw [acode_le hl hn _ _ _ _ hq]
        exact hs
      · cases hs
    · cases hs
  · cases hs

theorem acall_le : ∀ {n n' : Nat}, n ≤ n' → Le (acall P G ov n) (acall P G ov n')
  | 0, _, _ => fun f a h r hs => by simp [acall] at hs
  | n + 1, 0, hn => by omega
  | n + 1, n' + 1, hn => by
    intro f a h r hs
    have k1 : acall P G ov (n + 1) f a h = (match ov f with | some g => g a h | none => acallF P G n (acall P G ov n) f a h) := rfl
    have k2 : acall P G ov (n' + 1) f a h = (match ov f with | some g => g a h | none => acallF P G n' (acall P G ov n') f a h) := rfl
    rw [k1] at hs
    rw [k2]
    split at hs
    · exact hs
    · exact acallF_le (acall_le (by omega)) (by omega) _ _ _ _ hs
end
end Go.Sx
namespace Go.Sx
open Go Go.RowKit

section
variable (P : Program) (G : Nat → Option Nat) (ov : FuncId → Option (List AV → AHeap → Option (AV × AHeap)))

/-- a call ends so -/
def FW (f : FuncId) (args : List AV) (h : AHeap) (K : AV → AHeap → Prop) : Prop := ∃ n v h', acall P G ov n f args h = some (v, h') ∧ K v h'
def CW (c : Code) (t : List AV) (h : AHeap) (K : AExit → List AV → AHeap → Prop) : Prop := ∃ n e t' h', acode P G (acall P G ov n) n c t h = some (e, t', h') ∧ K e t' h'
def LW (ops : Array Oper) (l : List Oper) (t : List AV) (h : AHeap) (K : List AV → AHeap → Prop) : Prop := ∃ n t' h', alist P G (acall P G ov n) ops l t h = some (t', h') ∧ K t' h'

def noCall : CallF := fun _ _ _ => none

/-- one operation, resolved -/
def RW (e : Operand → Option AV) (h : AHeap) (r : ROp) (K : AV → AHeap → Prop) : Prop :=
  match r with
  | .callF f args => match aops e args with
    | some as => acallable P f = true ∧ FW P G ov f as h K
    | none => False
  | .gen o => match o.op with
    | .call { callee := .value f, args, .. } => match e f, aops e args.toList with
      | some (.func fn first cap), some as => acallable P fn = true ∧ FW P G ov fn (first ++ as ++ cap) h K
      | _, _ => False
    | _ => match aop P noCall e h o with
      | some (v, h') => K v h'
      | none => False
  | r => match rop P noCall e h r with
    | some (v, h') => K v h'
    | none => False

structure RO where
  dst : Option Tmp
  guard : Option (Tmp × Bool)
  op : ROp

def gtrue (t : List AV) (x : Tmp) (b : Bool) : Bool :=
  match t[x]? with
  | some (.bool c) => c == b
  | _ => false

def RL : List RO → List AV → AHeap → (List AV → AHeap → Prop) → Prop
  | [], t, h, K => K t h
  | o :: rest, t, h, K => match o.guard with
    | none => RW P G ov (aev G t) h o.op fun v h' => RL rest (aput t o.dst v) h' K
    | some (x, b) => if gtrue t x b = true then RW P G ov (aev G t) h o.op fun v h' => RL rest (aput t o.dst v) h' K
      else RL rest (aput t o.dst (.tuple [])) h K
end

section
variable {P : Program} {G : Nat → Option Nat} {ov : FuncId → Option (List AV → AHeap → Option (AV × AHeap))}

theorem aop_noCall {e : Operand → Option AV} {h : AHeap} {o : Oper} {r : AV × AHeap} (call : CallF) (hs : aop P noCall e h o = some r) : aop P call e h o = some r :=
  aop_le (call := noCall) (fun _ _ _ _ h => by cases h) hs

theorem aop_call {call : CallF} {e : Operand → Option AV} {h : AHeap} {o : Oper} {f : Operand} {args : Array Operand} {ts : Array TypeId} {fn : FuncId} {first cap as : List AV} {r : AV × AHeap}
    (ho : o.op = .call { callee := .value f, args, argTypes := ts }) (hf : e f = some (.func fn first cap)) (ha : aops e args.toList = some as) (hc : acallable P fn = true)
    (hr : call fn (first ++ as ++ cap) h = some r) : aop P call e h o = some r := by
  obtain ⟨dst, op, type, pos, after, guard⟩ := o
  simp only at ho
  subst ho
  simp only [aop, isAl, isEffOp, aeff, hf, ha, hc, hr, Bool.or_true, if_true]

theorem RW_sound {t : List AV} {h : AHeap} {o : Oper} {K : AV → AHeap → Prop} (hw : RW P G ov (aev G t) h (rsv P o) K) :
    ∃ n v h', (∀ m, n ≤ m → aop P (acall P G ov m) (aev G t) h o = some (v, h')) ∧ K v h' := by
  have he : ∀ f, aev G t (.func f) = some (.func f [] []) := fun _ => rfl
  have hkc : ∀ v, aev G t (.const v) = ofV v := fun _ => rfl
  have hfin : ∀ {v h'}, rop P noCall (aev G t) h (rsv P o) = some (v, h') → K v h' → ∃ n v h', (∀ m, n ≤ m → aop P (acall P G ov m) (aev G t) h o = some (v, h')) ∧ K v h' := by
    intro v h' hr hk
    exact ⟨0, v, h', fun m _ => aop_noCall _ (rsv_ok P noCall (aev G t) h o he hkc _ hr), hk⟩
  unfold RW at hw
  split at hw
  · rename_i f args hr
    split at hw
    · rename_i as has
      obtain ⟨hc, n, v, h', hcall, hk⟩ := hw
      refine ⟨n, v, h', fun m hm => ?_, hk⟩
      refine rsv_ok P _ (aev G t) h o he hkc _ ?_
      rw [hr]
      simp only [rop, has, hc, if_true]
      exact acall_le hm _ _ _ _ hcall
    · exact hw.elim
  · rename_i o' hr
    have ho' : ∀ (call : CallF) r, aop P call (aev G t) h o' = some r → aop P call (aev G t) h o = some r := fun call r hq =>
      rsv_ok P call (aev G t) h o he hkc _ (by rw [hr]; exact hq)
    split at hw
    · rename_i f args ts hop
      split at hw
      · rename_i fn first cap as hf ha
        obtain ⟨hc, n, v, h', hcall, hk⟩ := hw
        refine ⟨n, v, h', fun m hm => ?_, hk⟩
        exact ho' _ _ (aop_call hop hf ha hc (acall_le hm _ _ _ _ hcall))
      · exact hw.elim
    · split at hw
      · rename_i v h' hq
        exact ⟨0, v, h', fun m _ => ho' _ _ (aop_noCall _ hq), hw⟩
      · exact hw.elim
  · split at hw
    · rename_i v h' hq
      exact hfin hq hw
    · exact hw.elim

def gd (ops : Array Oper) (o : Oper) : Option (Option (Tmp × Bool)) :=
  match o.guard with
  | none => some none
  | some (j, b) => match (ops[j]?).bind (·.dst) with
    | some d => some (some (d, b))
    | none => none

/-- a region's operations, resolved -/
def rlist (P : Program) (ops : Array Oper) : List Oper → Option (List RO)
  | [] => some []
  | o :: rest => match gd ops o, rlist P ops rest with
    | some g, some r => some (⟨o.dst, g, rsv P o⟩ :: r)
    | _, _ => none

theorem gd_ok {ops : Array Oper} {o : Oper} {t : List AV} : ∀ {g}, gd ops o = some g → Region.wanted o (ayield ops t) = (match g with | none => true | some (x, b) => gtrue t x b) := by
  intro g hg
  unfold gd at hg
  unfold Region.wanted
  split at hg
  · rename_i ho
    simp only [Option.some.injEq] at hg
    subst hg
    try rw [ho]
  · rename_i j b ho
    split at hg
    · rename_i d hd
      simp only [Option.some.injEq] at hg
      subst hg
      try rw [ho]
      simp only [ayield, hd, Option.bind_some, gtrue]
      cases t[d]? with
      | none => rfl
      | some v => cases v <;> first | rfl | (rename_i c; cases c <;> cases b <;> rfl)
    · cases hg

theorem RL_sound {ops : Array Oper} {K : List AV → AHeap → Prop} : ∀ (l : List Oper) (rl : List RO) (t : List AV) (h : AHeap), rlist P ops l = some rl → RL P G ov rl t h K → LW P G ov ops l t h K
  | [], rl, t, h, hr, hw => by
    simp only [rlist, Option.some.injEq] at hr
    subst hr
    exact ⟨0, t, h, rfl, hw⟩
  | o :: rest, rl, t, h, hr, hw => by
    unfold rlist at hr
    split at hr
    · rename_i g r hg hrr
      simp only [Option.some.injEq] at hr
      subst hr
      have hwant := gd_ok (t := t) hg
      have run : RW P G ov (aev G t) h (rsv P o) (fun v h' => RL P G ov r (aput t o.dst v) h' K) → Region.wanted o (ayield ops t) = true → LW P G ov ops (o :: rest) t h K := by
        intro hq hwt
        obtain ⟨n, v, h', h1, h2⟩ := RW_sound hq
        obtain ⟨m, t', h'', h3, h4⟩ := RL_sound rest r _ _ hrr h2
        refine ⟨n + m, t', h'', ?_, h4⟩
        unfold alist
        rw [if_pos hwt, h1 (n + m) (by omega)]
        exact alist_le (acall_le (by omega)) _ _ _ _ h3
      cases g with
      | none => exact run hw hwant
      | some xb =>
        obtain ⟨x, b⟩ := xb
        simp only [RL] at hw
        split at hw
        · rename_i hgt; exact run hw (by rw [hwant]; exact hgt)
        · rename_i hgt
          obtain ⟨m, t', h'', h3, h4⟩ := RL_sound rest r _ _ hrr hw
          refine ⟨m, t', h'', ?_, h4⟩
          unfold alist
          rw [if_neg (by rw [hwant]; exact hgt)]
          exact h3
    · cases hr
end
end Go.Sx
namespace Go.Sx
open Go Go.RowKit

/-- code, resolved -/
inductive RC where
  | skip
  | reg (l : List RO)
  | seq (a b : RC)
  | cond (c : Operand) (x y : RC)
  | block (id : Nat) (c : RC)
  | loop (c : Code) (r : RC)
  | exit (id : Nat)
  | ret
  | old (c : Code)

def comp (P : Program) : Code → RC
  | .skip => .skip
  | .label _ => .skip
  | .region id ops draw =>
    if draw then .old (.region id ops draw)
    else match ops.toList with
      | [] => .skip
      | o :: rest => if isSelect o.op then .old (.region id ops draw) else
        match rlist P ops (o :: rest) with
        | some l => .reg l
        | none => .old (.region id ops draw)
  | .seq a b => .seq (comp P a) (comp P b)
  | .cond c x y => .cond c (comp P x) (comp P y)
  | .block id c => .block id (comp P c)
  | .loop c => .loop c (comp P c)
  | .exit id => .exit id
  | .ret => .ret
  | c => .old c

section
variable (P : Program) (G : Nat → Option Nat) (ov : FuncId → Option (List AV → AHeap → Option (AV × AHeap)))

/-- what must hold ahead of code -/
def RCW : RC → List AV → AHeap → (AExit → List AV → AHeap → Prop) → Prop
  | .skip, t, h, K => K .normal t h
  | .reg l, t, h, K => RL P G ov l t h fun t h => K .normal t h
  | .seq a b, t, h, K => RCW a t h fun e t h => match e with
    | .normal => RCW b t h K
    | .exit i => K (.exit i) t h
    | .ret => K .ret t h
  | .cond c x y, t, h, K => match aev G t c with
    | some (.bool b) => if b = true then RCW x t h K else RCW y t h K
    | _ => False
  | .block id c, t, h, K => RCW c t h fun e t h => match e with
    | .normal => K .normal t h
    | .exit i => if i = id then K .normal t h else K (.exit i) t h
    | .ret => K .ret t h
  | .loop c _, t, h, K => CW P G ov (.loop c) t h K
  | .exit id, t, h, K => K (.exit id) t h
  | .ret, t, h, K => K .ret t h
  | .old c, t, h, K => CW P G ov c t h K
end

section
variable {P : Program} {G : Nat → Option Nat} {ov : FuncId → Option (List AV → AHeap → Option (AV × AHeap))}

theorem acode_succ (call : CallF) (n : Nat) (c : Code) : acode P G call (n + 1) c = acodeF P G call n (acode P G call n) c := rfl

theorem RCW_sound : ∀ (c : Code) (t : List AV) (h : AHeap) (K : AExit → List AV → AHeap → Prop), RCW P G ov (comp P c) t h K → CW P G ov c t h K := by
  have base : ∀ (c : Code) (t : List AV) (h : AHeap) (K : AExit → List AV → AHeap → Prop) e, (∀ n, acodeF P G (acall P G ov (n + 1)) n (acode P G (acall P G ov (n + 1)) n) c t h = some (e, t, h)) → K e t h → CW P G ov c t h K := by
    intro c t h K e hq hk
    exact ⟨1, e, t, h, hq 0, hk⟩
  intro c
  induction c with
  | skip => exact fun t h K hw => base _ t h K .normal (fun n => rfl) hw
  | label l => exact fun t h K hw => base _ t h K .normal (fun n => rfl) hw
  | exit id => exact fun t h K hw => base _ t h K (.exit id) (fun n => rfl) hw
  | ret => exact fun t h K hw => base _ t h K .ret (fun n => rfl) hw
  | region id ops draw =>
    intro t h K hw
    unfold comp at hw
    split at hw
    · exact hw
    · rename_i hd
      simp only [Bool.not_eq_true] at hd
      subst hd
      split at hw
      · rename_i hl
        exact base _ t h K .normal (fun n => by simp only [acodeF, aregion, hl, Bool.false_eq_true, if_false]) hw
      · rename_i o rest hl
        split at hw
        · exact hw
        · rename_i hsel
          split at hw
          · rename_i l hr
            obtain ⟨n, t', h', h1, h2⟩ := RL_sound _ _ t h hr hw
            refine ⟨n + 1, .normal, t', h', ?_, h2⟩
            rw [acode_succ]
            have h3 : aregion P G (acall P G ov (n + 1)) ops t h = some (t', h') := by
              unfold aregion
              simp only [hl]
              rw [if_neg hsel]
              exact alist_le (acall_le (Nat.le_succ n)) _ _ _ _ h1
            simp only [acodeF, Bool.false_eq_true, if_false, h3]
          · exact hw
  | seq a b iha ihb =>
    intro t h K hw
    obtain ⟨n, e, t1, h1, hq, hk⟩ := iha t h _ hw
    cases e with
    | normal =>
      obtain ⟨m, e2, t2, h2, hq2, hk2⟩ := ihb t1 h1 K hk
      refine ⟨n + m + 1, e2, t2, h2, ?_, hk2⟩
      rw [acode_succ]
      have e1 := acode_le (P := P) (G := G) (call := acall P G ov n) (call' := acall P G ov (n + m + 1)) (acall_le (by omega)) (show n ≤ n + m by omega) a t h _ hq
      have e2 := acode_le (P := P) (G := G) (call := acall P G ov m) (call' := acall P G ov (n + m + 1)) (acall_le (by omega)) (show m ≤ n + m by omega) b t1 h1 _ hq2
      simp only [acodeF]
      rw [e1]
      exact e2
    | exit i =>
      refine ⟨n + 1, .exit i, t1, h1, ?_, hk⟩
      rw [acode_succ]
      have e1 := acode_le (P := P) (G := G) (call := acall P G ov n) (call' := acall P G ov (n + 1)) (acall_le (by omega)) (Nat.le_refl n) a t h _ hq
      simp only [acodeF]
      rw [e1]
    | ret =>
      refine ⟨n + 1, .ret, t1, h1, ?_, hk⟩
      rw [acode_succ]
      have e1 := acode_le (P := P) (G := G) (call := acall P G ov n) (call' := acall P G ov (n + 1)) (acall_le (by omega)) (Nat.le_refl n) a t h _ hq
      simp only [acodeF]
      rw [e1]
  | cond c x y ihx ihy =>
    intro t h K hw
    simp only [comp, RCW] at hw
    split at hw
    · rename_i b hb
      have go : ∀ z, CW P G ov z t h K → (b = true → z = x) → (b = false → z = y) → CW P G ov (.cond c x y) t h K := by
        rintro z ⟨n, e, t1, h1, hq, hk⟩ hx hy
        refine ⟨n + 1, e, t1, h1, ?_, hk⟩
        rw [acode_succ]
        have e1 := acode_le (P := P) (G := G) (call := acall P G ov n) (call' := acall P G ov (n + 1)) (acall_le (by omega)) (Nat.le_refl n) z t h _ hq
        simp only [acodeF, hb]
        cases b with
        | true => rw [← hx rfl]; exact e1
        | false => rw [← hy rfl]; exact e1
      split at hw
      · rename_i hbt
        exact go x (ihx t h K hw) (fun _ => rfl) (fun hf => by rw [hbt] at hf; cases hf)
      · rename_i hbt
        exact go y (ihy t h K hw) (fun hf => absurd hf hbt) (fun _ => rfl)
    · exact hw.elim
  | block id c ih =>
    intro t h K hw
    obtain ⟨n, e, t1, h1, hq, hk⟩ := ih t h _ hw
    have e1 := acode_le (P := P) (G := G) (call := acall P G ov n) (call' := acall P G ov (n + 1)) (acall_le (by omega)) (Nat.le_refl n) c t h _ hq
    cases e with
    | normal =>
      refine ⟨n + 1, .normal, t1, h1, ?_, hk⟩
      rw [acode_succ]
      simp only [acodeF]
      rw [e1]
    | ret =>
      refine ⟨n + 1, .ret, t1, h1, ?_, hk⟩
      rw [acode_succ]
      simp only [acodeF]
      rw [e1]
    | exit i =>
      simp only at hk
      split at hk
      · rename_i hi
        refine ⟨n + 1, .normal, t1, h1, ?_, hk⟩
        rw [acode_succ]
        simp only [acodeF]
        rw [e1]
        simp only [hi, if_true]
      · rename_i hi
        refine ⟨n + 1, .exit i, t1, h1, ?_, hk⟩
        rw [acode_succ]
        simp only [acodeF]
        rw [e1]
        simp only [hi, if_false]
  | loop c ih => exact fun t h K hw => hw
  | rangeFunc f ps a b _ _ => exact fun t h K hw => hw
  | scope c _ => exact fun t h K hw => hw
  | goto l => exact fun t h K hw => hw
  | refuse w => exact fun t h K hw => hw

/-- A CALL, by its body -/
theorem FW_of {f : FuncId} {fn : Func} {c : Code} {args : List AV} {h : AHeap} {K : AV → AHeap → Prop} (hov : ov f = none) (hf : P.funcs[f]? = some fn) (hb : fn.body = some c)
    (hw : RCW P G ov (comp P c) (aframe fn args) h fun e t h' => (match e with | .exit _ => False | _ => True) ∧ match aresults P fn h' t with | some v => K v h' | none => False) : FW P G ov f args h K := by
  obtain ⟨n, e, t', h', hq, hk1, hk2⟩ := RCW_sound c _ h _ hw
  split at hk2
  · rename_i v hv
    refine ⟨n + 1, v, h', ?_, hk2⟩
    show (match ov f with | some g => g args h | none => acallF P G n (acall P G ov n) f args h) = _
    rw [hov]
    simp only [acallF, hf, hb, hq]
    cases e with
    | normal => simp only [hv, Option.map_some]
    | ret => simp only [hv, Option.map_some]
    | exit i => exact hk1.elim
  · exact hk2.elim

/-- an override's call -/
theorem FW_ov {f : FuncId} {g : List AV → AHeap → Option (AV × AHeap)} {args : List AV} {h h' : AHeap} {v : AV} {K : AV → AHeap → Prop} (hov : ov f = some g) (hg : g args h = some (v, h')) (hk : K v h') : FW P G ov f args h K :=
  ⟨1, v, h', by show (match ov f with | some g => g args h | none => acallF P G 0 (acall P G ov 0) f args h) = _; rw [hov]; exact hg, hk⟩

theorem FW.mono {f : FuncId} {args : List AV} {h : AHeap} {K K' : AV → AHeap → Prop} (hw : FW P G ov f args h K) (hk : ∀ v h', K v h' → K' v h') : FW P G ov f args h K' :=
  let ⟨n, v, h', hq, hkk⟩ := hw; ⟨n, v, h', hq, hk _ _ hkk⟩

/-- one round of a loop -/
theorem loop_round {c : Code} {t : List AV} {h : AHeap} {K : AExit → List AV → AHeap → Prop}
    (hw : CW P G ov c t h fun e t h => match e with | .normal => CW P G ov (.loop c) t h K | .exit i => K (.exit i) t h | .ret => K .ret t h) : CW P G ov (.loop c) t h K := by
  obtain ⟨n, e, t1, h1, hq, hk⟩ := hw
  cases e with
  | normal =>
    obtain ⟨m, e2, t2, h2, hq2, hk2⟩ := hk
    cases m with
    | zero => simp [acode] at hq2
    | succ m =>
      have hq2' : aloop (acode P G (acall P G ov (m + 1)) m c) m t1 h1 = some (e2, t2, h2) := hq2
      refine ⟨n + m + 2, e2, t2, h2, ?_, hk2⟩
      show aloop (acode P G (acall P G ov (n + m + 2)) (n + m + 1) c) (n + m + 1) t h = _
      unfold aloop
      rw [acode_le (P := P) (G := G) (call := acall P G ov n) (call' := acall P G ov (n + m + 2)) (acall_le (by omega)) (show n ≤ n + m + 1 by omega) c t h _ hq]
      exact aloop_le (acode_le (acall_le (by omega)) (by omega) c) m (n + m) (by omega) _ _ _ hq2'
  | exit i =>
    refine ⟨n + 2, .exit i, t1, h1, ?_, hk⟩
    show aloop (acode P G (acall P G ov (n + 2)) (n + 1) c) (n + 1) t h = _
    unfold aloop
    rw [acode_le (P := P) (G := G) (call := acall P G ov n) (call' := acall P G ov (n + 2)) (acall_le (by omega)) (show n ≤ n + 1 by omega) c t h _ hq]
  | ret =>
    refine ⟨n + 2, .ret, t1, h1, ?_, hk⟩
    show aloop (acode P G (acall P G ov (n + 2)) (n + 1) c) (n + 1) t h = _
    unfold aloop
    rw [acode_le (P := P) (G := G) (call := acall P G ov n) (call' := acall P G ov (n + 2)) (acall_le (by omega)) (show n ≤ n + 1 by omega) c t h _ hq]

/-- A LOOP: an invariant and a measure -/
theorem loop_inv {c : Code} {K : AExit → List AV → AHeap → Prop} (I : List AV → AHeap → Prop) (μ : List AV → AHeap → Nat)
    (hr : ∀ t h, I t h → RCW P G ov (comp P c) t h fun e t' h' => match e with | .normal => I t' h' ∧ μ t' h' < μ t h | .exit i => K (.exit i) t' h' | .ret => K .ret t' h') :
    ∀ t h, I t h → CW P G ov (.loop c) t h K := by
  have key : ∀ n t h, μ t h = n → I t h → CW P G ov (.loop c) t h K := by
    intro n
    induction n using Nat.strongRecOn with
    | _ n ih =>
      intro t h hn hI
      refine loop_round ?_
      obtain ⟨m, e, t1, h1, hq, hk⟩ := RCW_sound c t h _ (hr t h hI)
      refine ⟨m, e, t1, h1, hq, ?_⟩
      cases e with
      | normal => exact ih _ (by rw [← hn]; exact hk.2) t1 h1 rfl hk.1
      | exit i => exact hk
      | ret => exact hk
  exact fun t h hI => key _ t h rfl hI
end
end Go.Sx
namespace Go.Sv
open Go Go.RowKit Go.Sx

/-! ### frames as functions -/
abbrev Fr := Nat → AV
abbrev und : AV := .tuple []
def fset (f : Fr) (d : Nat) (v : AV) : Fr := fun n => if n = d then v else f n
theorem fset_at (f : Fr) (d : Nat) (v : AV) (n : Nat) : fset f d v n = if n = d then v else f n := rfl
def fput (f : Fr) (d : Option Tmp) (v : AV) : Fr :=
  match d with
  | some d => fset f d v
  | none => f
def fev (G : Nat → Option Nat) (f : Fr) : Operand → Option AV
  | .tmp x => some (f x)
  | .const v => ofV v
  | .global g => (G g).map fun i => .ptr (some (i, 0))
  | .func f => some (.func f [] [])
def fgt (f : Fr) (x : Tmp) (b : Bool) : Bool :=
  match f x with
  | .bool c => c == b
  | _ => false

def Rep (N : Nat) (t : List AV) (f : Fr) : Prop := t.length = N ∧ ∀ n, t.getD n (.tuple []) = f n

theorem Rep.ev {N : Nat} {t : List AV} {f : Fr} {G : Nat → Option Nat} (r : Rep N t f) : aev G t = fev G f := by
  funext x
  cases x <;> first | rfl | (simp only [aev, fev, r.2])
theorem Rep.put {N : Nat} {t : List AV} {f : Fr} (r : Rep N t f) {d : Option Tmp} (hd : ∀ x, d = some x → x < N) (v : AV) : Rep N (aput t d v) (fput f d v) := by
  cases d with
  | none => exact r
  | some d =>
    have hlt := hd d rfl
    refine ⟨by simp [aput, r.1], fun n => ?_⟩
    simp only [aput, fput, fset, List.getD_eq_getElem?_getD, List.getElem?_set]
    by_cases hn : d = n
    · subst hn
      simp [r.1, hlt]
    · rw [if_neg hn, if_neg (fun h => hn h.symm), ← List.getD_eq_getElem?_getD]
      exact r.2 n
theorem Rep.gt {N : Nat} {t : List AV} {f : Fr} (r : Rep N t f) (x : Tmp) (b : Bool) : gtrue t x b = fgt f x b := by
  have h := r.2 x
  rw [List.getD_eq_getElem?_getD] at h
  unfold gtrue fgt
  rw [← h]
  cases t[x]? with
  | none => rfl
  | some v => cases v <;> rfl

def ini (args : List AV) : Fr := fun n => args.getD n (.tuple [])
theorem Rep.ini {N : Nat} {args : List AV} (h : args.length ≤ N) : Rep N (args ++ List.replicate (N - args.length) (.tuple [])) (ini args) := by
  refine ⟨by simp; omega, fun n => ?_⟩
  simp only [Go.Sv.ini, List.getD_eq_getElem?_getD, List.getElem?_append, List.getElem?_replicate]
  split
  · rfl
  · rename_i hn
    split
    · simp [List.getElem?_eq_none (Nat.le_of_not_lt hn)]
    · simp [List.getElem?_eq_none (Nat.le_of_not_lt hn)]

/-! ### the rules of code -/
section
variable {P : Program} {G : Nat → Option Nat} {ov : FuncId → Option (List AV → AHeap → Option (AV × AHeap))}

theorem CW_mono {c : Code} {t : List AV} {h : AHeap} {K K' : AExit → List AV → AHeap → Prop} (hw : CW P G ov c t h K) (hk : ∀ e t h, K e t h → K' e t h) : CW P G ov c t h K' :=
  let ⟨n, e, t', h', hq, hkk⟩ := hw; ⟨n, e, t', h', hq, hk _ _ _ hkk⟩

theorem CW_base {c : Code} {t : List AV} {h : AHeap} {K : AExit → List AV → AHeap → Prop} {e : AExit} (hq : ∀ n, acodeF P G (acall P G ov (n + 1)) n (acode P G (acall P G ov (n + 1)) n) c t h = some (e, t, h)) (hk : K e t h) : CW P G ov c t h K :=
  ⟨1, e, t, h, hq 0, hk⟩

theorem CW_seq {a b : Code} {t : List AV} {h : AHeap} {K : AExit → List AV → AHeap → Prop}
    (hw : CW P G ov a t h fun e t h => match e with
      | .normal => CW P G ov b t h K
      | .exit i => K (.exit i) t h
      | .ret => K .ret t h) : CW P G ov (.seq a b) t h K := by
  obtain ⟨n, e, t1, h1, hq, hk⟩ := hw
  cases e with
  | normal =>
    obtain ⟨m, e2, t2, h2, hq2, hk2⟩ := hk
    refine ⟨n + m + 1, e2, t2, h2, ?_, hk2⟩
    rw [acode_succ]
    have e1 := acode_le (P := P) (G := G) (call := acall P G ov n) (call' := acall P G ov (n + m + 1)) (acall_le (by omega)) (show n ≤ n + m by omega) a t h _ hq
    have e2 := acode_le (P := P) (G := G) (call := acall P G ov m) (call' := acall P G ov (n + m + 1)) (acall_le (by omega)) (show m ≤ n + m by omega) b t1 h1 _ hq2
    simp only [acodeF]
    rw [e1]
    exact e2
  | exit i =>
    refine ⟨n + 1, .exit i, t1, h1, ?_, hk⟩
    rw [acode_succ]
    have e1 := acode_le (P := P) (G := G) (call := acall P G ov n) (call' := acall P G ov (n + 1)) (acall_le (by omega)) (Nat.le_refl n) a t h _ hq
    simp only [acodeF]
    rw [e1]
  | ret =>
    refine ⟨n + 1, .ret, t1, h1, ?_, hk⟩
    rw [acode_succ]
    have e1 := acode_le (P := P) (G := G) (call := acall P G ov n) (call' := acall P G ov (n + 1)) (acall_le (by omega)) (Nat.le_refl n) a t h _ hq
    simp only [acodeF]
    rw [e1]

theorem CW_cond {c : Operand} {x y : Code} {t : List AV} {h : AHeap} {K : AExit → List AV → AHeap → Prop} {b : Bool} (hb : aev G t c = some (.bool b))
    (hx : b = true → CW P G ov x t h K) (hy : b = false → CW P G ov y t h K) : CW P G ov (.cond c x y) t h K := by
  have go : ∀ z, CW P G ov z t h K → (b = true → z = x) → (b = false → z = y) → CW P G ov (.cond c x y) t h K := by
    rintro z ⟨n, e, t1, h1, hq, hk⟩ hx hy
    refine ⟨n + 1, e, t1, h1, ?_, hk⟩
    rw [acode_succ]
    have e1 := acode_le (P := P) (G := G) (call := acall P G ov n) (call' := acall P G ov (n + 1)) (acall_le (by omega)) (Nat.le_refl n) z t h _ hq
    simp only [acodeF, hb]
    cases b with
    | true => rw [← hx rfl]; exact e1
    | false => rw [← hy rfl]; exact e1
  cases b with
  | true => exact go x (hx rfl) (fun _ => rfl) (fun h => by cases h)
  | false => exact go y (hy rfl) (fun h => by cases h) (fun _ => rfl)

theorem CW_block {id : Nat} {c : Code} {t : List AV} {h : AHeap} {K : AExit → List AV → AHeap → Prop}
    (hw : CW P G ov c t h fun e t h => match e with
      | .normal => K .normal t h
      | .exit i => if i = id then K .normal t h else K (.exit i) t h
      | .ret => K .ret t h) : CW P G ov (.block id c) t h K := by
  obtain ⟨n, e, t1, h1, hq, hk⟩ := hw
  have e1 := acode_le (P := P) (G := G) (call := acall P G ov n) (call' := acall P G ov (n + 1)) (acall_le (by omega)) (Nat.le_refl n) c t h _ hq
  cases e with
  | normal =>
    refine ⟨n + 1, .normal, t1, h1, ?_, hk⟩
    rw [acode_succ]
    simp only [acodeF]
    rw [e1]
  | ret =>
    refine ⟨n + 1, .ret, t1, h1, ?_, hk⟩
    rw [acode_succ]
    simp only [acodeF]
    rw [e1]
  | exit i =>
    simp only at hk
    split at hk
    · rename_i hi
      refine ⟨n + 1, .normal, t1, h1, ?_, hk⟩
      rw [acode_succ]
      simp only [acodeF]
      rw [e1]
      simp only [hi, if_true]
    · rename_i hi
      refine ⟨n + 1, .exit i, t1, h1, ?_, hk⟩
      rw [acode_succ]
      simp only [acodeF]
      rw [e1]
      simp only [hi, if_false]

theorem CW_loop {c : Code} {K : AExit → List AV → AHeap → Prop} (I : List AV → AHeap → Prop) (μ : List AV → AHeap → Nat → Prop)
    (hr : ∀ t h n, I t h → μ t h n → CW P G ov c t h fun e t' h' => match e with | .normal => I t' h' ∧ (∃ m, m < n ∧ μ t' h' m) | .exit i => K (.exit i) t' h' | .ret => K .ret t' h') :
    ∀ n t h, I t h → μ t h n → CW P G ov (.loop c) t h K := by
  intro n
  induction n using Nat.strongRecOn with
  | _ n ih =>
    intro t h hI hm
    refine loop_round (CW_mono (hr t h n hI hm) ?_)
    intro e t1 h1 hk
    cases e with
    | normal =>
      obtain ⟨k1, m, k2, k3⟩ := hk
      exact ih m k2 t1 h1 k1 k3
    | exit i => exact hk
    | ret => exact hk

theorem CW_reg {id : Nat} {ops : Array Oper} {l : List RO} {t : List AV} {h : AHeap} {K : AExit → List AV → AHeap → Prop} (hs : ∀ o ∈ ops.toList.head?, isSelect o.op = false)
    (hr : rlist P ops ops.toList = some l) (hw : RL P G ov l t h fun t h => K .normal t h) : CW P G ov (.region id ops false) t h K := by
  obtain ⟨n, t', h', h1, h2⟩ := RL_sound _ _ t h hr hw
  refine ⟨n + 1, .normal, t', h', ?_, h2⟩
  rw [acode_succ]
  have h3 : aregion P G (acall P G ov (n + 1)) ops t h = some (t', h') := by
    unfold aregion
    cases hl : ops.toList with
    | nil =>
      rw [hl] at h1
      simpa [alist] using h1
    | cons o rest =>
      rw [hl] at h1 hs
      simp only
      rw [if_neg (by simp [hs o rfl])]
      exact alist_le (acall_le (Nat.le_succ n)) _ _ _ _ h1
  simp only [acodeF, Bool.false_eq_true, if_false, h3]
end
end Go.Sv
namespace Go.Sv
open Go Go.RowKit Go.Sx

section
variable (P : Program) (G : Nat → Option Nat) (ov : FuncId → Option (List AV → AHeap → Option (AV × AHeap)))

/-- a row of operations over a frame that is a function -/
def VL : List RO → Fr → AHeap → (Fr → AHeap → Prop) → Prop
  | [], f, h, K => K f h
  | o :: rest, f, h, K => match o.guard with
    | none => RW P G ov (fev G f) h o.op fun v h' => VL rest (fput f o.dst v) h' K
    | some (x, b) => if fgt f x b = true then RW P G ov (fev G f) h o.op fun v h' => VL rest (fput f o.dst v) h' K
      else VL rest (fput f o.dst (.tuple [])) h K

inductive VC where
  | skip
  | reg (l : List RO)
  | seq (a b : VC)
  | cond (c : Operand) (x y : VC)
  | block (id : Nat) (c : VC)
  | loop (c : VC)
  | exit (id : Nat)
  | ret
  | bad

def dstOk (N : Nat) (l : List RO) : Bool := l.all fun o => match o.dst with | some d => decide (d < N) | none => true

def vcomp (N : Nat) : Code → VC
  | .skip => .skip
  | .label _ => .skip
  | .region id ops draw =>
    if draw then .bad
    else match ops.toList with
      | [] => .skip
      | o :: rest => if isSelect o.op then .bad else
        match rlist P ops (o :: rest) with
        | some l => if dstOk N l then .reg l else .bad
        | none => .bad
  | .seq a b => .seq (vcomp N a) (vcomp N b)
  | .cond c x y => .cond c (vcomp N x) (vcomp N y)
  | .block id c => .block id (vcomp N c)
  | .loop c => .loop (vcomp N c)
  | .exit id => .exit id
  | .ret => .ret
  | _ => .bad

/-- what must hold ahead of code -/
def WV : VC → Fr → AHeap → (AExit → Fr → AHeap → Prop) → Prop
  | .skip, t, h, K => K .normal t h
  | .reg l, t, h, K => VL P G ov l t h fun t h => K .normal t h
  | .seq a b, t, h, K => WV a t h fun e t h => match e with
    | .normal => WV b t h K
    | .exit i => K (.exit i) t h
    | .ret => K .ret t h
  | .cond c x y, t, h, K => match fev G t c with
    | some (.bool b) => if b = true then WV x t h K else WV y t h K
    | _ => False
  | .block id c, t, h, K => WV c t h fun e t h => match e with
    | .normal => K .normal t h
    | .exit i => if i = id then K .normal t h else K (.exit i) t h
    | .ret => K .ret t h
  | .loop c, t, h, K => ∃ (I : Fr → AHeap → Prop) (μ : Fr → AHeap → Nat), I t h ∧ ∀ t h, I t h → WV c t h fun e t' h' => match e with
    | .normal => I t' h' ∧ μ t' h' < μ t h
    | .exit i => K (.exit i) t' h'
    | .ret => K .ret t' h'
  | .exit id, t, h, K => K (.exit id) t h
  | .ret, t, h, K => K .ret t h
  | .bad, t, h, K => False
end

section
variable {P : Program} {G : Nat → Option Nat} {ov : FuncId → Option (List AV → AHeap → Option (AV × AHeap))} {N : Nat}

theorem RW_mono {e : Operand → Option AV} {h : AHeap} {r : ROp} {K K' : AV → AHeap → Prop} (hk : ∀ v h, K v h → K' v h) (hw : RW P G ov e h r K) : RW P G ov e h r K' := by
  unfold RW at hw ⊢
  split at hw
  · split at hw
    · exact ⟨hw.1, hw.2.mono hk⟩
    · exact hw.elim
  · split at hw
    · split at hw
      · exact ⟨hw.1, hw.2.mono hk⟩
      · exact hw.elim
    · split at hw
      · exact hk _ _ hw
      · exact hw.elim
  · split at hw
    · exact hk _ _ hw
    · exact hw.elim

theorem VL_sound {K : Fr → AHeap → Prop} : ∀ (l : List RO) (t : List AV) (f : Fr) (h : AHeap), dstOk N l = true → Rep N t f → VL P G ov l f h K → RL P G ov l t h fun t' h' => ∃ f', Rep N t' f' ∧ K f' h'
  | [], t, f, h, _, r, hw => ⟨f, r, hw⟩
  | o :: rest, t, f, h, hd, r, hw => by
    simp only [dstOk, List.all_cons, Bool.and_eq_true] at hd
    have hd0 : ∀ x, o.dst = some x → x < N := by
      intro x hx
      have := hd.1
      rw [hx] at this
      simpa using this
    have step : ∀ v h', VL P G ov rest (fput f o.dst v) h' K → RL P G ov rest (aput t o.dst v) h' fun t' h' => ∃ f', Rep N t' f' ∧ K f' h' :=
      fun v h' hq => VL_sound rest _ _ h' hd.2 (r.put hd0 v) hq
    unfold VL at hw
    unfold RL
    split at hw
    · rename_i hg
      simp only [hg, r.ev]
      exact RW_mono step hw
    · rename_i x b hg
      simp only [hg, r.gt, r.ev]
      split at hw
      · rename_i hc
        rw [if_pos hc]
        exact RW_mono step hw
      · rename_i hc
        rw [if_neg hc]
        exact step _ _ hw

theorem WV_sound : ∀ (c : Code) (t : List AV) (f : Fr) (h : AHeap) (K : AExit → Fr → AHeap → Prop), Rep N t f → WV P G ov (vcomp P N c) f h K → CW P G ov c t h fun e t' h' => ∃ f', Rep N t' f' ∧ K e f' h' := by
  intro c
  induction c with
  | skip => exact fun t f h K r hw => CW_base (e := .normal) (fun n => rfl) ⟨f, r, hw⟩
  | label l => exact fun t f h K r hw => CW_base (e := .normal) (fun n => rfl) ⟨f, r, hw⟩
  | exit id => exact fun t f h K r hw => CW_base (e := .exit id) (fun n => rfl) ⟨f, r, hw⟩
  | ret => exact fun t f h K r hw => CW_base (e := .ret) (fun n => rfl) ⟨f, r, hw⟩
  | region id ops draw =>
    intro t f h K r hw
    unfold vcomp at hw
    split at hw
    · exact hw.elim
    · rename_i hd
      simp only [Bool.not_eq_true] at hd
      subst hd
      split at hw
      · rename_i hl
        exact CW_base (e := .normal) (fun n => by simp only [acodeF, aregion, hl, Bool.false_eq_true, if_false]) ⟨f, r, hw⟩
      · rename_i o rest hl
        split at hw
        · exact hw.elim
        · rename_i hsel
          split at hw
          · rename_i l hr
            split at hw
            · rename_i hdst
              refine CW_reg (l := l) ?_ (by rw [hl]; exact hr) ?_
              · intro o' ho'
                rw [hl] at ho'
                simp only [List.head?_cons, Option.mem_def, Option.some.injEq] at ho'
                subst ho'
                simpa using hsel
              · exact VL_sound l t f h hdst r hw
            · exact hw.elim
          · exact hw.elim
  | seq a b iha ihb =>
    intro t f h K r hw
    refine CW_seq (CW_mono (iha t f h _ r hw) ?_)
    rintro e t1 h1 ⟨f1, r1, hk⟩
    cases e with
    | normal => exact ihb t1 f1 h1 K r1 hk
    | exit i => exact ⟨f1, r1, hk⟩
    | ret => exact ⟨f1, r1, hk⟩
  | cond c x y ihx ihy =>
    intro t f h K r hw
    simp only [vcomp, WV] at hw
    split at hw
    · rename_i b hb
      refine CW_cond (b := b) (by rw [r.ev]; exact hb) ?_ ?_
      · rintro rfl
        rw [if_pos rfl] at hw
        exact ihx t f h K r hw
      · rintro rfl
        rw [if_neg (by simp)] at hw
        exact ihy t f h K r hw
    · exact hw.elim
  | block id c ih =>
    intro t f h K r hw
    refine CW_block (CW_mono (ih t f h _ r hw) ?_)
    rintro e t1 h1 ⟨f1, r1, hk⟩
    cases e with
    | normal => exact ⟨f1, r1, hk⟩
    | ret => exact ⟨f1, r1, hk⟩
    | exit i =>
      simp only at hk ⊢
      split at hk
      · rename_i hi; rw [if_pos hi]; exact ⟨f1, r1, hk⟩
      · rename_i hi; rw [if_neg hi]; exact ⟨f1, r1, hk⟩
  | loop c ih =>
    intro t f h K r hw
    obtain ⟨I, μ, hI, hr⟩ := hw
    refine CW_loop (fun t h => ∃ f, Rep N t f ∧ I f h) (fun t h n => ∃ f, Rep N t f ∧ μ f h = n) ?_ (μ f h) t h ⟨f, r, hI⟩ ⟨f, r, rfl⟩
    rintro t h n ⟨f, r, hI⟩ ⟨f2, r2, hm⟩
    have hff : f2 = f := funext fun n => by rw [← r.2 n, ← r2.2 n]
    subst hff
    refine CW_mono (ih t f2 h _ r (hr f2 h hI)) ?_
    rintro e t1 h1 ⟨f1, r1, hk⟩
    cases e with
    | normal => exact ⟨⟨f1, r1, hk.1⟩, _, by rw [← hm]; exact hk.2, f1, r1, rfl⟩
    | exit i => exact ⟨f1, r1, hk⟩
    | ret => exact ⟨f1, r1, hk⟩
  | rangeFunc f ps a b _ _ => exact fun t f h K r hw => hw.elim
  | scope c _ => exact fun t f h K r hw => hw.elim
  | goto l => exact fun t f h K r hw => hw.elim
  | refuse w => exact fun t f h K r hw => hw.elim

/-- what is answered -/
def fresult (P : Program) (h : AHeap) (f : Fr) : ResultVar → Option AV
  | .tmp x => some (f x)
  | .cell a ty => match f a with
    | .ptr (some (i, o)) => aload P h ty i o
    | _ => none
def fresultL (P : Program) (h : AHeap) (f : Fr) : List ResultVar → Option (List AV)
  | [] => some []
  | r :: rs => match fresult P h f r, fresultL P h f rs with
    | some v, some vs => some (v :: vs)
    | _, _ => none
def fresults (P : Program) (rs : List ResultVar) (h : AHeap) (f : Fr) : Option AV :=
  match fresultL P h f rs with
  | some [v] => some v
  | some vs => some (.tuple vs)
  | none => none
theorem fresult_eq {t : List AV} {f : Fr} (r : Rep N t f) (h : AHeap) (x : ResultVar) : aresult P h t x = fresult P h f x := by
  cases x <;> simp only [aresult, fresult, r.2] <;> rfl
theorem fresultL_eq {t : List AV} {f : Fr} (r : Rep N t f) (h : AHeap) : ∀ l : List ResultVar, aresultL P h t l = fresultL P h f l
  | [] => rfl
  | x :: l => by simp only [aresultL, fresultL, fresult_eq r, fresultL_eq r h l] <;> rfl
theorem fresults_eq {t : List AV} {f : Fr} {fn : Func} (r : Rep N t f) (h : AHeap) : aresults P fn h t = fresults P fn.results.toList h f := by
  simp only [aresults, fresults, fresultL_eq r] <;> rfl

/-- A CALL, by its body -/
theorem FW_body {f : FuncId} {fn : Func} {c : Code} {v : VC} {rs : List ResultVar} {args : List AV} {h : AHeap} {K : AV → AHeap → Prop} (hov : ov f = none) (hf : P.funcs[f]? = some fn) (hb : fn.body = some c)
    (hn : fn.ntmps = N) (hrs : fn.results.toList = rs) (hv : vcomp P N c = v) (ha : args.length ≤ N)
    (hw : WV P G ov v (ini args) h fun e t h' => (match e with | .exit _ => False | _ => True) ∧ match fresults P rs h' t with | some v => K v h' | none => False) : FW P G ov f args h K := by
  subst hn hv hrs
  obtain ⟨n, e, t', h', hq, f', r, hk1, hk2⟩ := WV_sound c _ _ h _ (Rep.ini ha) hw
  split at hk2
  · rename_i v hv
    refine ⟨n + 1, v, h', ?_, hk2⟩
    show (match ov f with | some g => g args h | none => acallF P G n (acall P G ov n) f args h) = _
    rw [hov]
    rw [← fresults_eq (fn := fn) r] at hv
    simp only [acallF, hf, hb]
    unfold aframe
    rw [hq]
    cases e with
    | normal => simp only [hv, Option.map_some]
    | ret => simp only [hv, Option.map_some]
    | exit i => exact hk1.elim
  · exact hk2.elim
end
end Go.Sv
