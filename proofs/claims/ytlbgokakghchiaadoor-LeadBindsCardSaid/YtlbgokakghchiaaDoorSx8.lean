/- YtlbgokakghchiaaDoorSx8: texts of one's own, merged: SxQ6, SxQ7, SxQ8, SxQ9. -/
import Derived.Test.YtlbgokakghchiaaDoorSx7
set_option linter.all false
namespace Go.Sv
open Go Go.RowKit Go.Sx

section
variable {P : Program} {call : CallF} {e : Operand → Option AV} {h : AHeap} {r : AV × AHeap}

theorem rint_mm_max (k k' : IntKind) (a b : Int) : prun P (Builtin.max2 (.int k a) (.int k' b)) = some (.int k (if b > a then b else a)) := rfl
theorem rint_mm_min (k k' : IntKind) (a b : Int) : prun P (Builtin.min2 (.int k a) (.int k' b)) = some (.int k (if b < a then b else a)) := rfl

theorem x_max {dst : Option Tmp} {type : TypeId} {pos : String} {after : Array Edge} {guard : Option (Nat × Bool)} {args : Array Operand} {ts : Array TypeId}
    (hr : (aops e args.toList).bind (F_max h) = some r) : aop P call e h { dst, op := .call { callee := .builtin .max, args, argTypes := ts }, type, pos, after, guard } = some r := by
  rw [Option.bind_eq_some_iff] at hr
  obtain ⟨vs, hvs, hr⟩ := hr
  have hl := aops_len hvs
  obtain ⟨l⟩ := args
  have fin : ∀ v : AV, (((Op.call { callee := .builtin .max, args := ⟨l⟩, argTypes := ts }).operands.toList.all fun z => oclosed (e z)) = true) →
      prun P (execOp (fun x => oden (e x)) { dst, op := .call { callee := .builtin .max, args := ⟨l⟩, argTypes := ts }, type, pos, after, guard }) = some (.value (v.den ρ0)) → ofV (v.den ρ0) = some v → some (v, h) = some r →
      aop P call e h { dst, op := .call { callee := .builtin .max, args := ⟨l⟩, argTypes := ts }, type, pos, after, guard } = some r := by
    intro v h1 h2 h3 hq
    refine x_read rfl rfl ?_ hq
    simp only [aread]
    unfold apure
    rw [if_pos (by rw [h1]; rfl), h2]
    exact h3
  unfold F_max at hr
  split at hr
  · rename_i k a k' b
    match l, hl with
    | [x, y], _ =>
      simp only [aops] at hvs
      cases hx : e x <;> cases hy : e y <;> simp [hx, hy] at hvs
      obtain ⟨rfl, rfl⟩ := hvs
      refine fin _ ?_ ?_ rfl hr
      · simp [Op.operands, Call.operands, hx, hy, oclosed, AV.closed]
      · simp only [execOp, resolve, oden]
        simp [hx, hy, AV.den]
        rfl
  · rename_i k a k' b k'' c
    match l, hl with
    | [x, y, z], _ =>
      simp only [aops] at hvs
      cases hx : e x <;> cases hy : e y <;> cases hz : e z <;> simp [hx, hy, hz] at hvs
      obtain ⟨rfl, rfl, rfl⟩ := hvs
      refine fin _ ?_ ?_ rfl hr
      · simp [Op.operands, Call.operands, hx, hy, hz, oclosed, AV.closed]
      · simp only [execOp, resolve, oden]
        simp [hx, hy, hz, AV.den]
        rfl
  · cases hr

theorem x_min {dst : Option Tmp} {type : TypeId} {pos : String} {after : Array Edge} {guard : Option (Nat × Bool)} {args : Array Operand} {ts : Array TypeId}
    (hr : (aops e args.toList).bind (F_min h) = some r) : aop P call e h { dst, op := .call { callee := .builtin .min, args, argTypes := ts }, type, pos, after, guard } = some r := by
  rw [Option.bind_eq_some_iff] at hr
  obtain ⟨vs, hvs, hr⟩ := hr
  have hl := aops_len hvs
  obtain ⟨l⟩ := args
  have fin : ∀ v : AV, (((Op.call { callee := .builtin .min, args := ⟨l⟩, argTypes := ts }).operands.toList.all fun z => oclosed (e z)) = true) →
      prun P (execOp (fun x => oden (e x)) { dst, op := .call { callee := .builtin .min, args := ⟨l⟩, argTypes := ts }, type, pos, after, guard }) = some (.value (v.den ρ0)) → ofV (v.den ρ0) = some v → some (v, h) = some r →
      aop P call e h { dst, op := .call { callee := .builtin .min, args := ⟨l⟩, argTypes := ts }, type, pos, after, guard } = some r := by
    intro v h1 h2 h3 hq
    refine x_read rfl rfl ?_ hq
    simp only [aread]
    unfold apure
    rw [if_pos (by rw [h1]; rfl), h2]
    exact h3
  unfold F_min at hr
  split at hr
  · rename_i k a k' b
    match l, hl with
    | [x, y], _ =>
      simp only [aops] at hvs
      cases hx : e x <;> cases hy : e y <;> simp [hx, hy] at hvs
      obtain ⟨rfl, rfl⟩ := hvs
      refine fin _ ?_ ?_ rfl hr
      · simp [Op.operands, Call.operands, hx, hy, oclosed, AV.closed]
      · simp only [execOp, resolve, oden]
        simp [hx, hy, AV.den]
        rfl
  · rename_i k a k' b k'' c
    match l, hl with
    | [x, y, z], _ =>
      simp only [aops] at hvs
      cases hx : e x <;> cases hy : e y <;> cases hz : e z <;> simp [hx, hy, hz] at hvs
      obtain ⟨rfl, rfl, rfl⟩ := hvs
      refine fin _ ?_ ?_ rfl hr
      · simp [Op.operands, Call.operands, hx, hy, hz, oclosed, AV.closed]
      · simp only [execOp, resolve, oden]
        simp [hx, hy, hz, AV.den]
        rfl
  · cases hr

theorem g_store {dst : Option Tmp} {type : TypeId} {pos : String} {after : Array Edge} {guard : Option (Nat × Bool)} {t : TypeId} {a x : Operand} {inf : TypeInfo} (h1 : P.info? t = some inf)
    (hr : (aops e [a, x]).bind (F_store inf.size h) = some r) : aop P call e h { dst, op := .store t a x, type, pos, after, guard } = some r := by
  refine x_write (.inr rfl) ?_
  rw [aops2] at hr
  simp only [Option.bind_eq_some_iff] at hr
  obtain ⟨va, ha, vx, hx, hr⟩ := hr
  unfold F_store at hr
  split at hr
  · rename_i i off v hq
    simp only [List.cons.injEq, and_true] at hq
    obtain ⟨rfl, rfl⟩ := hq
    simp only [aeff, awrite, ha, hx, h1]
    exact hr
  · cases hr

theorem xgen_ok {o : Oper} {F : AHeap → List AV → AR} {xs : List Operand} (hx : xgen P o = some (.op F xs)) (hr : (aops e xs).bind (F h) = some r) : aop P call e h o = some r := by
  obtain ⟨dst, op, type, pos, after, guard⟩ := o
  unfold xgen at hx
  split at hx
  all_goals try (cases hx; done)
  all_goals (rename_i hop; simp only at hop; subst hop)
  · split at hx <;> first | (cases hx; done) | skip
    all_goals (rename_i hu; simp only [Option.some.injEq, XOp.op.injEq] at hx; obtain ⟨rfl, rfl⟩ := hx; exact g_len hu rfl hr)
  · split at hx
    · rename_i el el2 h1 h2
      split at hx
      · rename_i inf zr h3 h4
        split at hx
        · rename_i h5
          simp only [Option.some.injEq, XOp.op.injEq] at hx
          obtain ⟨rfl, rfl⟩ := hx
          exact g_app h1 h2 h3 h4 h5 hr
        · cases hx
      · cases hx
    · cases hx
  · split at hx
    · rename_i el h1
      split at hx
      · rename_i inf h3
        simp only [Option.some.injEq, XOp.op.injEq] at hx
        obtain ⟨rfl, rfl⟩ := hx
        exact g_copy h1 h3 hr
      · cases hx
    · cases hx
  · split at hx
    · rename_i kt el h1
      split at hx
      · rename_i kd h2
        simp only [Option.some.injEq, XOp.op.injEq] at hx
        obtain ⟨rfl, rfl⟩ := hx
        exact g_mapU h1 h2 hr
      · cases hx
    · cases hx
  · split at hx
    · rename_i kt el h1
      split at hx
      · rename_i kd z h2 h3
        simp only [Option.some.injEq, XOp.op.injEq] at hx
        obtain ⟨rfl, rfl⟩ := hx
        exact g_lookup h1 h2 h3 hr
      · cases hx
    · cases hx
  · simp only [Option.some.injEq, XOp.op.injEq] at hx
    obtain ⟨rfl, rfl⟩ := hx
    exact g_makeMap hr
  · split at hx
    · rename_i d el h1
      split at hx
      · rename_i inf h2
        simp only [Option.some.injEq, XOp.op.injEq] at hx
        obtain ⟨rfl, rfl⟩ := hx
        exact g_makeChan h1 h2 hr
      · cases hx
    · cases hx
  · split at hx
    · rename_i el h1
      split at hx
      · rename_i inf zr h2 h3
        split at hx
        · rename_i h4
          simp only [Option.some.injEq, XOp.op.injEq] at hx
          obtain ⟨rfl, rfl⟩ := hx
          exact g_makeSlice h1 h2 h3 h4 hr
        · cases hx
      · cases hx
    · cases hx
  · split at hx
    · rename_i z fields hz h1
      split at hx
      · rename_i pl h2
        split at hx
        · rename_i lead s h3
          simp only [Option.some.injEq, XOp.op.injEq] at hx
          obtain ⟨rfl, rfl⟩ := hx
          exact g_build (fun ps => by simp only [abuild, hz, h1, h2]) h3 hr
        · cases hx
      · cases hx
    · rename_i z n el hz h1
      split at hx
      · rename_i inf h2
        split at hx
        · rename_i lead s h3
          simp only [Option.some.injEq, XOp.op.injEq] at hx
          obtain ⟨rfl, rfl⟩ := hx
          exact g_build (fun ps => by simp only [abuild, hz, h1, h2]) h3 hr
        · cases hx
      · cases hx
    · cases hx
  · split at hx
    · rename_i el h1
      split at hx
      · rename_i inf zr h2 h3
        split at hx
        · rename_i h4
          split at hx
          · rename_i lead s h5
            simp only [Option.some.injEq, XOp.op.injEq] at hx
            obtain ⟨rfl, rfl⟩ := hx
            exact g_buildSlice h1 h2 h3 h4 h5 hr
          · cases hx
        · cases hx
      · cases hx
    · cases hx
  · split at hx
    · rename_i n el h1
      split at hx
      · rename_i inf d h2 h3
        split at hx
        · rename_i ha
          simp only [Option.some.injEq, XOp.op.injEq] at hx
          obtain ⟨rfl, rfl⟩ := hx
          exact g_index h1 h2 h3 (by rw [if_pos ha]) hr
        · rename_i ha
          simp only [Option.some.injEq, XOp.op.injEq] at hx
          obtain ⟨rfl, rfl⟩ := hx
          exact g_index h1 h2 h3 (by rw [if_neg ha]) hr
      · cases hx
    · cases hx
  · split at hx
    · rename_i fields h1
      split at hx
      · rename_i fd h0
        split at hx
        · rename_i d inf h3 h2
          split at hx
          · rename_i ha
            simp only [Option.some.injEq, XOp.op.injEq] at hx
            obtain ⟨rfl, rfl⟩ := hx
            exact g_field h1 h0 h2 h3 (by rw [if_pos ha]) hr
          · rename_i ha
            simp only [Option.some.injEq, XOp.op.injEq] at hx
            obtain ⟨rfl, rfl⟩ := hx
            exact g_field h1 h0 h2 h3 (by rw [if_neg ha]) hr
        · cases hx
      · cases hx
    · cases hx
  · split at hx
    · rename_i n el h1
      split at hx
      · rename_i inf h2
        simp only [Option.some.injEq, XOp.op.injEq] at hx
        obtain ⟨rfl, rfl⟩ := hx
        exact g_sliceA h1 h2 hr
      · cases hx
    · rename_i el h1
      split at hx
      · rename_i inf h2
        simp only [Option.some.injEq, XOp.op.injEq] at hx
        obtain ⟨rfl, rfl⟩ := hx
        exact g_sliceS h1 h2 hr
      · cases hx
    · cases hx
  · simp only [Option.some.injEq, XOp.op.injEq] at hx
    obtain ⟨rfl, rfl⟩ := hx
    exact g_makeFunc hr
  · split at hx
    · cases hx
    · rename_i d hne h1
      simp only [Option.some.injEq, XOp.op.injEq] at hx
      obtain ⟨rfl, rfl⟩ := hx
      exact g_mki h1 (fun m hm => hne m (by rw [hm])) hr
    · cases hx
  · split at hx
    · cases hx
    · rename_i d hne h1
      split at hx
      · rename_i z h2
        simp only [Option.some.injEq, XOp.op.injEq] at hx
        obtain ⟨rfl, rfl⟩ := hx
        exact g_asr h1 (fun m hm => hne m (by rw [hm])) h2 hr
      · cases hx
    · cases hx
  · split at hx
    · rename_i el h1 h2
      split at hx
      · rename_i h3
        simp only [Option.some.injEq, XOp.op.injEq] at hx
        obtain ⟨rfl, rfl⟩ := hx
        exact g_b2s h1 h2 h3 hr
      · cases hx
    · cases hx
  · split at hx
    · simp only [Option.some.injEq, XOp.op.injEq] at hx
      obtain ⟨rfl, rfl⟩ := hx
      exact x_max hr
    · cases hx
  · split at hx
    · simp only [Option.some.injEq, XOp.op.injEq] at hx
      obtain ⟨rfl, rfl⟩ := hx
      exact x_min hr
    · cases hx
  · split at hx
    · rename_i h1
      simp only [Option.some.injEq, XOp.op.injEq] at hx
      obtain ⟨rfl, rfl⟩ := hx
      exact g_eqB (neg := false) rfl h1 hr
    · rename_i h1
      simp only [Option.some.injEq, XOp.op.injEq] at hx
      obtain ⟨rfl, rfl⟩ := hx
      exact g_eqS (neg := false) rfl h1 hr
    · cases hx
  · split at hx
    · rename_i h1
      simp only [Option.some.injEq, XOp.op.injEq] at hx
      obtain ⟨rfl, rfl⟩ := hx
      exact g_eqB (neg := true) rfl h1 hr
    · rename_i h1
      simp only [Option.some.injEq, XOp.op.injEq] at hx
      obtain ⟨rfl, rfl⟩ := hx
      exact g_eqS (neg := true) rfl h1 hr
    · cases hx
end
end Go.Sv
namespace Go.Sv
open Go Go.RowKit Go.Sx

/-! ### operands and operations over a frame that is a function -/
inductive Opd where
  | t (n : Nat)
  | c (v : AV)

def oev (f : Fr) : Opd → AV
  | .t n => f n
  | .c v => v

def opd (G : Nat → Option Nat) : Operand → Option Opd
  | .tmp n => some (.t n)
  | .const v => (ofV v).map .c
  | .global g => (G g).map fun i => .c (.ptr (some (i, 0)))
  | .func f => some (.c (.func f [] []))

theorem opd_ok {G : Nat → Option Nat} {f : Fr} : ∀ {x : Operand} {y : Opd}, opd G x = some y → fev G f x = some (oev f y)
  | .tmp n, y, h => by simp only [opd, Option.some.injEq] at h; subst h; rfl
  | .const v, y, h => by
    simp only [opd, Option.map_eq_some_iff] at h
    obtain ⟨u, hu, rfl⟩ := h
    simp only [fev, hu, oev]
  | .global g, y, h => by
    simp only [opd, Option.map_eq_some_iff] at h
    obtain ⟨u, hu, rfl⟩ := h
    simp only [fev, hu, oev, Option.map_some]
  | .func f, y, h => by simp only [opd, Option.some.injEq] at h; subst h; rfl

def opds (G : Nat → Option Nat) : List Operand → Option (List Opd)
  | [] => some []
  | x :: l => match opd G x, opds G l with
    | some y, some r => some (y :: r)
    | _, _ => none
def oevs (f : Fr) : List Opd → List AV
  | [] => []
  | x :: l => oev f x :: oevs f l
theorem opds_ok {G : Nat → Option Nat} {f : Fr} : ∀ {l : List Operand} {r : List Opd}, opds G l = some r → aops (fev G f) l = some (oevs f r)
  | [], r, h => by simp only [opds, Option.some.injEq] at h; subst h; rfl
  | x :: l, r, h => by
    unfold opds at h
    split at h
    · rename_i y r' hy hr
      simp only [Option.some.injEq] at h
      subst h
      simp only [aops, opd_ok hy, opds_ok hr, oevs]
    · cases h

inductive QOp where
  | op (F : AHeap → List AV → AR) (xs : List Opd)
  | callF (f : FuncId) (xs : List Opd)
  | callV (f : Opd) (xs : List Opd)

def qsv (P : Program) (G : Nat → Option Nat) (o : Oper) : Option QOp :=
  match xsv P o with
  | some (.op F xs) => (opds G xs).map (.op F)
  | some (.callF f xs) => (opds G xs).map (.callF f)
  | some (.callV f xs) => match opd G f, opds G xs with
    | some g, some r => some (.callV g r)
    | _, _ => none
  | none => none

structure QO where
  dst : Option Nat
  guard : Option (Nat × Bool)
  op : QOp

/-- of a region whose order is drawn: what must be read alike at earlier times (from which place of the plan on), and whether it changes memory -/
structure DO where
  q : QO
  chk : Option Nat
  eff : Bool

def xr (r : AR) (K : AV → AHeap → Prop) : Prop :=
  match r with
  | some (v, h) => K v h
  | none => False
theorem xr_some (v : AV) (h : AHeap) (K : AV → AHeap → Prop) : xr (some (v, h)) K = K v h := by rfl
theorem xr_none (K : AV → AHeap → Prop) : xr none K = False := by rfl
theorem xr_congr {r r' : AR} (hr : r = r') (K : AV → AHeap → Prop) : xr r K = xr r' K := by rw [hr]
theorem xr_ite (c : Prop) [Decidable c] (a b : AR) (K : AV → AHeap → Prop) : xr (if c then a else b) K = if c then xr a K else xr b K := by split <;> rfl
theorem xr_mono {r : AR} {K K' : AV → AHeap → Prop} (hk : ∀ v h, K v h → K' v h) (hw : xr r K) : xr r K' := by
  match r, hw with
  | some (v, h), hw => exact hk v h hw
theorem xr_ex {r : AR} {K : AV → AHeap → Prop} (hw : xr r K) : ∃ v h, r = some (v, h) ∧ K v h := by
  match r, hw with
  | some (v, h), hw => exact ⟨v, h, rfl, hw⟩

section
variable (P : Program) (G : Nat → Option Nat) (ov : FuncId → Option (List AV → AHeap → Option (AV × AHeap)))

def RQ (f : Fr) (h : AHeap) (q : QOp) (K : AV → AHeap → Prop) : Prop :=
  match q with
  | .op F xs => xr (F h (oevs f xs)) K
  | .callF g xs => FW P G ov g (oevs f xs) h K
  | .callV g xs => match oev f g with
    | .func fn first cap => acallable P fn = true ∧ FW P G ov fn (first ++ oevs f xs ++ cap) h K
    | _ => False

def VQ : List QO → Fr → AHeap → (Fr → AHeap → Prop) → Prop
  | [], f, h, K => K f h
  | ⟨dst, none, op⟩ :: rest, f, h, K => RQ P G ov f h op fun v h' => VQ rest (fput f dst v) h' K
  | ⟨dst, some (x, b), op⟩ :: rest, f, h, K =>
    if fgt f x b = true then RQ P G ov f h op fun v h' => VQ rest (fput f dst v) h' K
    else VQ rest (fput f dst (.tuple [])) h K

/-- what is read is the same at all these times -/
def Chk (F : AHeap → List AV → AR) (vs : List AV) (lim : Nat) (v : AV) : List (Nat × AHeap) → Prop
  | [] => True
  | (p, hp) :: r => (p < lim ∨ F hp vs = some (v, hp)) ∧ Chk F vs lim v r

def RD (f : Fr) (h : AHeap) (d : DO) (hist : List (Nat × AHeap)) (K : AV → AHeap → Prop) : Prop :=
  match d.chk, d.q.op with
  | some lim, .op F xs => xr (F h (oevs f xs)) fun v h' => Chk F (oevs f xs) lim v hist ∧ K v h'
  | some _, _ => False
  | none, q => RQ P G ov f h q K

def VD : List DO → Nat → List (Nat × AHeap) → Fr → AHeap → (Fr → AHeap → Prop) → Prop
  | [], _, _, f, h, K => K f h
  | d :: rest, k, hist, f, h, K => match d.q.guard with
    | none => RD P G ov f h d hist fun v h' => VD rest (k + 1) (if d.eff then (k + 1, h') :: hist else hist) (fput f d.q.dst v) h' K
    | some (x, b) => if fgt f x b = true then RD P G ov f h d hist fun v h' => VD rest (k + 1) (if d.eff then (k + 1, h') :: hist else hist) (fput f d.q.dst v) h' K
      else VD rest (k + 1) hist (fput f d.q.dst (.tuple [])) h K
end

section
variable {P : Program} {G : Nat → Option Nat} {ov : FuncId → Option (List AV → AHeap → Option (AV × AHeap))} {N : Nat}

theorem fev_func (f : Fr) : ∀ g, fev G f (.func g) = some (.func g [] []) := fun _ => rfl
theorem fev_const (f : Fr) : ∀ v, fev G f (.const v) = ofV v := fun _ => rfl

theorem xsv_op {o : Oper} {F : AHeap → List AV → AR} {xs : List Operand} {call : CallF} {e : Operand → Option AV} {h : AHeap} {r : AV × AHeap}
    (he : ∀ f, e (.func f) = some (.func f [] [])) (hk : ∀ v, e (.const v) = ofV v) (hx : xsv P o = some (.op F xs)) (hr : (aops e xs).bind (F h) = some r) : aop P call e h o = some r := by
  unfold xsv at hx
  split at hx
  all_goals try (cases hx; done)
  all_goals try (rename_i hq; simp only [Option.some.injEq, XOp.op.injEq] at hx; obtain ⟨rfl, rfl⟩ := hx; first
    | exact xold_ok he hk hq x_mv hr
    | exact xold_ok he hk hq x_pick hr
    | exact xold_ok he hk hq x_load1 hr
    | exact xold_ok he hk hq x_loadN hr
    | exact xold_ok he hk hq x_nilc hr
    | exact xold_ok he hk hq x_fadr hr
    | exact xold_ok he hk hq x_iadrA hr
    | exact xold_ok he hk hq x_iadrS hr
    | exact xold_ok he hk hq x_ext hr
    | exact xold_ok he hk hq x_bin hr
    | exact xold_ok he hk hq x_not hr
    | exact xold_ok he hk hq x_neg hr
    | exact xold_ok he hk hq x_toInt hr
    | exact xold_ok he hk hq x_isnil hr
    | exact xold_ok he hk hq x_box hr
    | exact xold_ok he hk hq x_alloc hr)
  · split at hx
    · cases hx
    · cases hx
  · split at hx
    · rename_i t a x hop
      split at hx
      · rename_i inf h1
        simp only [Option.some.injEq, XOp.op.injEq] at hx
        obtain ⟨rfl, rfl⟩ := hx
        obtain ⟨dst, op, type, pos, after, guard⟩ := o
        simp only at hop
        subst hop
        exact g_store h1 hr
      · cases hx
    · exact xgen_ok hx hr

theorem xsv_callF {o : Oper} {f : FuncId} {xs : List Operand} {as : List AV} {call : CallF} {e : Operand → Option AV} {h : AHeap} {r : AV × AHeap}
    (he : ∀ f, e (.func f) = some (.func f [] [])) (hk : ∀ v, e (.const v) = ofV v) (hx : xsv P o = some (.callF f xs)) (ha : aops e xs = some as) (hr : call f as h = some r) : aop P call e h o = some r := by
  unfold xsv at hx
  split at hx
  all_goals try (cases hx; done)
  · rename_i f' args hq
    split at hx
    · rename_i hc
      simp only [Option.some.injEq, XOp.callF.injEq] at hx
      obtain ⟨rfl, rfl⟩ := hx
      refine rsv_ok P call e h o he hk r ?_
      rw [hq]
      simp only [rop, ha, hc, if_true]
      exact hr
    · cases hx
  · split at hx
    · split at hx <;> cases hx
    · unfold xgen at hx
      repeat' split at hx
      all_goals cases hx

theorem xsv_callV {o : Oper} {f : Operand} {xs : List Operand} {fn : FuncId} {first cap as : List AV} {call : CallF} {e : Operand → Option AV} {h : AHeap} {r : AV × AHeap}
    (hx : xsv P o = some (.callV f xs)) (hf : e f = some (.func fn first cap)) (ha : aops e xs = some as) (hc : acallable P fn = true) (hr : call fn (first ++ as ++ cap) h = some r) : aop P call e h o = some r := by
  unfold xsv at hx
  split at hx
  all_goals try (cases hx; done)
  · split at hx <;> cases hx
  · split at hx
    · split at hx <;> cases hx
    · unfold xgen at hx
      split at hx
      all_goals try (cases hx; done)
      all_goals try (repeat' split at hx)
      all_goals try (cases hx; done)
      rename_i f' args ts hop
      simp only [Option.some.injEq, XOp.callV.injEq] at hx
      obtain ⟨rfl, rfl⟩ := hx
      exact aop_call hop hf ha hc hr

theorem RQ_sound {f : Fr} {h : AHeap} {o : Oper} {q : QOp} {K : AV → AHeap → Prop} (hq : qsv P G o = some q) (hw : RQ P G ov f h q K) :
    ∃ n v h', (∀ m, n ≤ m → aop P (acall P G ov m) (fev G f) h o = some (v, h')) ∧ K v h' := by
  unfold qsv at hq
  split at hq
  · rename_i F xs hx
    rw [Option.map_eq_some_iff] at hq
    obtain ⟨ys, hys, rfl⟩ := hq
    obtain ⟨v, h', hr, hk⟩ := xr_ex hw
    exact ⟨0, v, h', fun m _ => xsv_op (fev_func f) (fev_const f) hx (by rw [opds_ok hys]; exact hr), hk⟩
  · rename_i g xs hx
    rw [Option.map_eq_some_iff] at hq
    obtain ⟨ys, hys, rfl⟩ := hq
    obtain ⟨n, v, h', hr, hk⟩ := hw
    exact ⟨n, v, h', fun m hm => xsv_callF (fev_func f) (fev_const f) hx (opds_ok hys) (acall_le hm _ _ _ _ hr), hk⟩
  · rename_i g xs hx
    split at hq
    · rename_i g' ys hg hys
      simp only [Option.some.injEq] at hq
      subst hq
      simp only [RQ] at hw
      split at hw
      · rename_i fn first cap hfn
        obtain ⟨hc, n, v, h', hr, hk⟩ := hw
        exact ⟨n, v, h', fun m hm => xsv_callV hx (by rw [opd_ok hg, hfn]) (opds_ok hys) hc (acall_le hm _ _ _ _ hr), hk⟩
      · exact hw.elim
    · cases hq
  · cases hq

def dOk (N : Nat) : Option Tmp → Bool
  | some d => decide (d < N)
  | none => true

def qlist (P : Program) (G : Nat → Option Nat) (N : Nat) (ops : Array Oper) : List Oper → Option (List QO)
  | [] => some []
  | o :: rest => match gd ops o, qsv P G o, qlist P G N ops rest with
    | some g, some q, some r => if dOk N o.dst then some (⟨o.dst, g, q⟩ :: r) else none
    | _, _, _ => none

theorem dst_of {d : Option Tmp} (h : dOk N d = true) : ∀ x, d = some x → x < N := by
  intro x hx
  subst hx
  simpa [dOk] using h

theorem VQ_sound {ops : Array Oper} {K : Fr → AHeap → Prop} : ∀ (l : List Oper) (ql : List QO) (t : List AV) (f : Fr) (h : AHeap), qlist P G N ops l = some ql → Rep N t f → VQ P G ov ql f h K →
    ∃ n t' h' f', (∀ m, n ≤ m → alist P G (acall P G ov m) ops l t h = some (t', h')) ∧ Rep N t' f' ∧ K f' h'
  | [], ql, t, f, h, hq, r, hw => by
    simp only [qlist, Option.some.injEq] at hq
    subst hq
    exact ⟨0, t, h, f, fun m _ => rfl, r, hw⟩
  | o :: rest, ql, t, f, h, hq, r, hw => by
    unfold qlist at hq
    split at hq
    case h_2 => cases hq
    rename_i g q r' hg hqs hrest
    split at hq
    case isFalse => cases hq
    rename_i hd
    simp only [Option.some.injEq] at hq
    subst hq
    have hwant := gd_ok (t := t) hg
    have run : RQ P G ov f h q (fun v h' => VQ P G ov r' (fput f o.dst v) h' K) → Region.wanted o (ayield ops t) = true →
        ∃ n t' h' f', (∀ m, n ≤ m → alist P G (acall P G ov m) ops (o :: rest) t h = some (t', h')) ∧ Rep N t' f' ∧ K f' h' := by
      intro hq hwt
      obtain ⟨n, v, h', h1, h2⟩ := RQ_sound hqs hq
      obtain ⟨m, t', h'', f', h3, h4, h5⟩ := VQ_sound rest r' _ _ h' hrest (r.put (dst_of hd) v) h2
      refine ⟨n + m, t', h'', f', fun k hk => ?_, h4, h5⟩
      unfold alist
      rw [if_pos hwt, r.ev, h1 k (by omega)]
      exact h3 k (by omega)
    cases g with
    | none => exact run hw hwant
    | some xb =>
      obtain ⟨x, b⟩ := xb
      simp only [VQ] at hw
      split at hw
      · rename_i hgt; exact run hw (by rw [hwant, ← hgt]; exact r.gt x b)
      · rename_i hgt
        obtain ⟨m, t', h'', f', h3, h4, h5⟩ := VQ_sound rest r' _ _ h hrest (r.put (dst_of hd) (.tuple [])) hw
        refine ⟨m, t', h'', f', fun k hk => ?_, h4, h5⟩
        unfold alist
        rw [if_neg (by rw [hwant]; simp only; rw [r.gt x b]; exact hgt)]
        exact h3 k hk
end
end Go.Sv
namespace Go.Sv
open Go Go.RowKit Go.Sx

/-! ### regions whose order is drawn -/
def effAlways (o : Oper) : Bool := o.guard.isNone && isEffOp o.op && !isAl o.op
def limOf (ops : Array Oper) (pi : List Nat) (k : Nat) : Nat :=
  (List.range k).foldl (fun a m => if effAlways (ops.getD (pi.getD m 0) default) && befI ops (pi.getD m 0) (pi.getD k 0) then m + 1 else a) 0
def cleanAt (ops : Array Oper) (pi : List Nat) (k : Nat) : Bool :=
  (List.range k).all fun m => !isEffOp (ops.getD (pi.getD m 0) default).op && !isAl (ops.getD (pi.getD m 0) default).op
def needChk (ops : Array Oper) (pi : List Nat) (k : Nat) (o : Oper) : Bool := readsHeap o.op && !isEffOp o.op && !isAl o.op && !cleanAt ops pi k

def dlist (P : Program) (G : Nat → Option Nat) (N : Nat) (ops : Array Oper) (pi : List Nat) : Nat → List Nat → Option (List DO)
  | _, [] => some []
  | k, i :: is => match gd ops (ops.getD i default), qsv P G (ops.getD i default), dlist P G N ops pi (k + 1) is with
    | some g, some q, some r =>
      if dOk N (ops.getD i default).dst then
        some (⟨⟨(ops.getD i default).dst, g, q⟩, if needChk ops pi k (ops.getD i default) then some (limOf ops pi k) else none, isEffOp (ops.getD i default).op && !isAl (ops.getD i default).op⟩ :: r)
      else none
    | _, _, _ => none

theorem foldl_last {p : Nat → Bool} : ∀ (l : List Nat) (a : Nat), (l.foldl (fun a m => if p m then m + 1 else a) a = a) ∨ ∃ m ∈ l, p m = true ∧ l.foldl (fun a m => if p m then m + 1 else a) a = m + 1
  | [], a => .inl rfl
  | x :: l, a => by
    simp only [List.foldl_cons]
    rcases foldl_last l (if p x then x + 1 else a) with h | ⟨m, hm, h1, h2⟩
    · rw [h]
      by_cases hp : p x = true
      · exact .inr ⟨x, List.mem_cons_self .., hp, by rw [if_pos hp]⟩
      · exact .inl (by rw [if_neg hp])
    · exact .inr ⟨m, List.mem_cons_of_mem _ hm, h1, h2⟩

theorem limOf_spec {ops : Array Oper} {pi : List Nat} {k p : Nat} (h : p < limOf ops pi k) : ∃ m, m < k ∧ effAlways (ops.getD (pi.getD m 0) default) = true ∧ befI ops (pi.getD m 0) (pi.getD k 0) = true ∧ p ≤ m := by
  unfold limOf at h
  rcases foldl_last (p := fun m => effAlways (ops.getD (pi.getD m 0) default) && befI ops (pi.getD m 0) (pi.getD k 0)) (List.range k) 0 with h1 | ⟨m, hm, h1, h2⟩
  · rw [h1] at h; omega
  · rw [h2] at h
    simp only [Bool.and_eq_true] at h1
    exact ⟨m, List.mem_range.1 hm, h1.1, h1.2, by omega⟩

theorem Chk_spec {F : AHeap → List AV → AR} {vs : List AV} {lim : Nat} {v : AV} : ∀ {hist : List (Nat × AHeap)}, Chk F vs lim v hist → ∀ p hp, (p, hp) ∈ hist → p < lim ∨ F hp vs = some (v, hp)
  | [], _, p, hp, hm => by cases hm
  | (q, hq) :: r, h, p, hp, hm => by
    rcases List.mem_cons.1 hm with he | hm
    · cases he; exact h.1
    · exact Chk_spec h.2 p hp hm

section
variable {P : Program} {G : Nat → Option Nat} {ov : FuncId → Option (List AV → AHeap → Option (AV × AHeap))} {N : Nat}

def clsOf (o : Oper) : Cls := if isAl o.op then .al else if isEffOp o.op then .eff else .rd

theorem aopC_of {call : CallF} {e : Operand → Option AV} {h h' : AHeap} {o : Oper} {v : AV} (hs : aop P call e h o = some (v, h')) : aopC P call e h o = some (clsOf o, v, h') := by
  unfold aop at hs
  unfold aopC clsOf
  by_cases ha : isAl o.op = true
  · simp only [ha, Bool.true_or, if_true] at hs ⊢
    have : aeff P call e h o = awrite P e h o := by
      obtain ⟨dst, op, type, pos, after, guard⟩ := o
      cases op <;> first | (simp [isAl] at ha; done) | rfl
    rw [← this, hs]; rfl
  · by_cases hb : isEffOp o.op = true
    · simp only [ha, hb, Bool.or_true, if_true, Bool.false_eq_true, if_false] at hs ⊢
      rw [hs]; rfl
    · simp only [ha, hb, Bool.or_false, Bool.false_eq_true, if_false] at hs ⊢
      rw [Option.map_eq_some_iff] at hs
      obtain ⟨u, hu, hq⟩ := hs
      simp only [Prod.mk.injEq] at hq
      obtain ⟨rfl, rfl⟩ := hq
      rw [hu]; rfl

theorem aread_of {call : CallF} {e : Operand → Option AV} {h h' : AHeap} {o : Oper} {v : AV} (hc : clsOf o = .rd) (hs : aop P call e h o = some (v, h')) : aread P e h o = some v ∧ h' = h := by
  unfold clsOf at hc
  unfold aop at hs
  split at hc
  · cases hc
  · rename_i ha
    split at hc
    · cases hc
    · rename_i hb
      rw [if_neg (by simp [ha, hb])] at hs
      rw [Option.map_eq_some_iff] at hs
      obtain ⟨u, hu, hq⟩ := hs
      simp only [Prod.mk.injEq] at hq
      obtain ⟨rfl, rfl⟩ := hq
      exact ⟨hu, rfl⟩

/-- a time at which memory may be read -/
def Ep (hist : List (Nat × AHeap)) (k : Nat) (rs : List Rec) (j p : Nat) (hp : AHeap) : Prop :=
  (p, hp) ∈ hist ∨ (k < p ∧ p ≤ k + j ∧ ∃ r1 r2, rs[p - 1 - k]? = some r1 ∧ r1.cls = .eff ∧ rs[p - k]? = some r2 ∧ r2.h = hp)

structure DOut (P : Program) (G : Nat → Option Nat) (ops : Array Oper) (pi : List Nat) (l : List Nat) (k : Nat) (hist : List (Nat × AHeap)) (h : AHeap) (rs : List Rec) : Prop where
  first : ∀ r, rs[0]? = some r → r.h = h
  eff : ∀ (j i : Nat) (r : Rec), l[j]? = some i → rs[j]? = some r → effAlways (ops.getD i default) = true → r.cls = .eff
  rd : ∀ (j i : Nat) (r : Rec), l[j]? = some i → rs[j]? = some r → readsHeap (ops.getD i default).op = true → r.cls = .rd → Region.wanted (ops.getD i default) (ayield ops r.t) = true →
    ∀ p hp, Ep hist k rs j p hp → limOf ops pi (k + j) ≤ p → aread P (aev G r.t) hp (ops.getD i default) = some r.v

theorem RD_sound {f : Fr} {h : AHeap} {o : Oper} {q : QOp} {g : Option (Nat × Bool)} {c : Option Nat} {ef : Bool} {hist : List (Nat × AHeap)} {K : AV → AHeap → Prop} (hq : qsv P G o = some q)
    (hw : RD P G ov f h ⟨⟨o.dst, g, q⟩, c, ef⟩ hist K) :
    ∃ n v h', (∀ m, n ≤ m → aop P (acall P G ov m) (fev G f) h o = some (v, h')) ∧ K v h' ∧ (∀ lim, c = some lim → ∀ p hp, (p, hp) ∈ hist → p < lim ∨ ∃ m, aop P (acall P G ov m) (fev G f) hp o = some (v, hp)) := by
  cases c with
  | none =>
    obtain ⟨n, v, h', h1, h2⟩ := RQ_sound hq hw
    exact ⟨n, v, h', h1, h2, fun _ hc => by cases hc⟩
  | some lim =>
    unfold RD at hw
    cases q with
    | op F xs =>
      simp only at hw
      obtain ⟨v, h', hr, hc, hk⟩ := xr_ex hw
      have hq' := hq
      unfold qsv at hq'
      split at hq'
      · rename_i F' ys hx
        rw [Option.map_eq_some_iff] at hq'
        obtain ⟨zs, hzs, he⟩ := hq'
        simp only [QOp.op.injEq] at he
        obtain ⟨rfl, rfl⟩ := he
        refine ⟨0, v, h', fun m _ => xsv_op (fev_func f) (fev_const f) hx (by rw [opds_ok hzs]; exact hr), hk, ?_⟩
        intro lim' hl p hp hm
        cases hl
        rcases Chk_spec hc p hp hm with h1 | h1
        · exact .inl h1
        · exact .inr ⟨0, xsv_op (fev_func f) (fev_const f) hx (by rw [opds_ok hzs]; exact h1)⟩
      · rw [Option.map_eq_some_iff] at hq'; obtain ⟨_, _, he⟩ := hq'; cases he
      · split at hq' <;> cases hq'
      · cases hq'
    | callF g xs => exact hw.elim
    | callV g xs => exact hw.elim

theorem VD_sound {ops : Array Oper} {pi : List Nat} {K : Fr → AHeap → Prop} : ∀ (l : List Nat) (k : Nat) (hist : List (Nat × AHeap)) (dl : List DO) (t : List AV) (f : Fr) (h : AHeap), dlist P G N ops pi k l = some dl → Rep N t f →
    pi.drop k = l → (cleanAt ops pi k = true → hist = [(0, h)]) → VD P G ov dl k hist f h K →
    ∃ n rs t' h' f', (∀ m, n ≤ m → arunC P G (acall P G ov m) ops l t h = some (rs, t', h')) ∧ Rep N t' f' ∧ K f' h' ∧ DOut P G ops pi l k hist h rs
  | [], k, hist, dl, t, f, h, hd, r, _, _, hw => by
    simp only [dlist, Option.some.injEq] at hd
    subst hd
    exact ⟨0, [], t, h, f, fun m _ => rfl, r, hw, ⟨by simp, by simp, by simp⟩⟩
  | i :: is, k, hist, dl, t, f, h, hd, r, hpi, hcl, hw => by
    unfold dlist at hd
    split at hd
    case h_2 => cases hd
    rename_i g q dr hg hqs hrest
    split at hd
    case isFalse => cases hd
    rename_i hdst
    simp only [Option.some.injEq] at hd
    subst hd
    have hpk : pi.getD k 0 = i := by
      have : pi[k]? = some i := by
        have := congrArg (·[0]?) hpi
        simpa using this
      rw [List.getD_eq_getElem?_getD, this]; rfl
    have hpi' : pi.drop (k + 1) = is := by
      rw [← List.drop_drop, hpi]; rfl
    have hclS : cleanAt ops pi (k + 1) = true → cleanAt ops pi k = true ∧ isEffOp (ops.getD i default).op = false ∧ isAl (ops.getD i default).op = false := by
      intro hc
      unfold cleanAt at hc
      rw [List.range_succ, List.all_append] at hc
      simp only [Bool.and_eq_true, List.all_cons, List.all_nil, Bool.not_eq_true', hpk] at hc
      exact ⟨hc.1, hc.2.1.1, hc.2.1.2⟩
    have hwant := gd_ok (t := t) hg
    have run : RD P G ov f h ⟨⟨(ops.getD i default).dst, g, q⟩, if needChk ops pi k (ops.getD i default) then some (limOf ops pi k) else none, isEffOp (ops.getD i default).op && !isAl (ops.getD i default).op⟩ hist
          (fun v h' => VD P G ov dr (k + 1) (if (isEffOp (ops.getD i default).op && !isAl (ops.getD i default).op) = true then (k + 1, h') :: hist else hist) (fput f (ops.getD i default).dst v) h' K) →
        Region.wanted (ops.getD i default) (ayield ops t) = true →
        ∃ n rs t' h' f', (∀ m, n ≤ m → arunC P G (acall P G ov m) ops (i :: is) t h = some (rs, t', h')) ∧ Rep N t' f' ∧ K f' h' ∧ DOut P G ops pi (i :: is) k hist h rs := by
      intro hq hwt
      obtain ⟨n, v, h1, ha, hk, hchk⟩ := RD_sound hqs hq
      have hcase : cleanAt ops pi (k + 1) = true → (if (isEffOp (ops.getD i default).op && !isAl (ops.getD i default).op) = true then (k + 1, h1) :: hist else hist) = [(0, h1)] := by
        intro hc
        obtain ⟨c1, c2, c3⟩ := hclS hc
        have hcls : clsOf (ops.getD i default) = .rd := by simp only [clsOf, c2, c3, Bool.false_eq_true, if_false]
        rw [if_neg (by simp only [c2, Bool.false_and]; exact Bool.false_ne_true), hcl c1, (aread_of hcls (ha n (Nat.le_refl _))).2]
      obtain ⟨m, rs, t', h', f', hr, hrep, hkk, hout⟩ := VD_sound is (k + 1) _ dr _ _ h1 hrest (r.put (dst_of hdst) v) hpi' hcase hk
      refine ⟨n + m, ⟨clsOf (ops.getD i default), v, t, h⟩ :: rs, t', h', f', ?_, hrep, hkk, ?_⟩
      · intro k' hk'
        unfold arunC
        simp only
        rw [if_pos hwt, r.ev, aopC_of (ha k' (by omega))]
        simp only
        rw [hr k' (by omega)]
      · refine ⟨by simp, ?_, ?_⟩
        · intro j i' r' hl hrj hea
          cases j with
          | zero =>
            simp only [List.getElem?_cons_zero, Option.some.injEq] at hl hrj
            subst hl hrj
            simp only [effAlways, Bool.and_eq_true, Bool.not_eq_true'] at hea
            simp only [clsOf, hea.2, hea.1.2, Bool.false_eq_true, if_false, if_true]
          | succ j =>
            simp only [List.getElem?_cons_succ] at hl hrj
            exact hout.eff j i' r' hl hrj hea
        · intro j i' r' hl hrj hrh hcls hwn p hp hep hlim
          cases j with
          | zero =>
            simp only [List.getElem?_cons_zero, Option.some.injEq] at hl hrj
            subst hl hrj
            simp only at hcls hwn
            have hmem : (p, hp) ∈ hist := by
              rcases hep with h2 | ⟨h2, h3, _⟩
              · exact h2
              · omega
            simp only [Nat.add_zero] at hlim
            have hal : isAl (ops.getD i default).op = false := by
              simp only [clsOf] at hcls
              split at hcls
              · cases hcls
              · rename_i h; simpa using h
            have hef : isEffOp (ops.getD i default).op = false := by
              simp only [clsOf, hal, Bool.false_eq_true, if_false] at hcls
              split at hcls
              · cases hcls
              · rename_i h; simpa using h
            rw [r.ev]
            by_cases hn : needChk ops pi k (ops.getD i default) = true
            · rcases hchk (limOf ops pi k) (by rw [if_pos hn]) p hp hmem with h2 | ⟨m', h2⟩
              · omega
              · exact (aread_of hcls h2).1
            · have hc : cleanAt ops pi k = true := by
                simp only [needChk, hrh, hef, hal, Bool.not_false, Bool.and_true, Bool.true_and, Bool.not_eq_true', Bool.not_eq_true, Bool.not_eq_false] at hn
                exact hn
              rw [hcl hc, List.mem_singleton] at hmem
              cases hmem
              exact (aread_of hcls (ha n (Nat.le_refl _))).1
          | succ j =>
            simp only [List.getElem?_cons_succ] at hl hrj
            refine hout.rd j i' r' hl hrj hrh hcls hwn p hp ?_ (by rw [show k + 1 + j = k + (j + 1) by omega]; exact hlim)
            rcases hep with h2 | ⟨h2, h3, r1, r2, h4, h5, h6, h7⟩
            · refine .inl ?_
              split
              · exact List.mem_cons_of_mem _ h2
              · exact h2
            · by_cases hpk1 : p = k + 1
              · subst hpk1
                simp only [Nat.add_sub_cancel, Nat.sub_self, List.getElem?_cons_zero, Option.some.injEq] at h4
                subst h4
                rw [show k + 1 - k = 0 + 1 by omega, List.getElem?_cons_succ] at h6
                have hh := hout.first r2 h6
                simp only at h5
                have hal : isAl (ops.getD i default).op = false ∧ isEffOp (ops.getD i default).op = true := by
                  simp only [clsOf] at h5
                  split at h5
                  · cases h5
                  · rename_i h8
                    split at h5
                    · rename_i h9; exact ⟨by simpa using h8, h9⟩
                    · cases h5
                refine .inl ?_
                rw [if_pos (by simp only [hal.1, hal.2]; rfl), ← h7, hh]
                exact List.mem_cons_self ..
              · refine .inr ⟨by omega, by omega, r1, r2, ?_, h5, ?_, h7⟩
                · rw [show p - 1 - k = (p - 1 - (k + 1)) + 1 by omega, List.getElem?_cons_succ] at h4
                  exact h4
                · rw [show p - k = (p - (k + 1)) + 1 by omega, List.getElem?_cons_succ] at h6
                  exact h6
    cases g with
    | none => exact run hw hwant
    | some xb =>
      obtain ⟨x, b⟩ := xb
      simp only [VD] at hw
      split at hw
      · rename_i hgt; exact run hw (by rw [hwant, ← hgt]; exact r.gt x b)
      · rename_i hgt
        have hwf : ¬ Region.wanted (ops.getD i default) (ayield ops t) = true := by rw [hwant]; simp only; rw [r.gt x b]; exact hgt
        obtain ⟨m, rs, t', h', f', hr, hrep, hkk, hout⟩ := VD_sound is (k + 1) hist dr _ _ h hrest (r.put (dst_of hdst) (.tuple [])) hpi' (fun hc => hcl (hclS hc).1) hw
        refine ⟨m, ⟨.rd, .tuple [], t, h⟩ :: rs, t', h', f', ?_, hrep, hkk, ?_⟩
        · intro k' hk'
          unfold arunC
          simp only
          rw [if_neg hwf, hr k' (by omega)]
        · have hgn : (ops.getD i default).guard ≠ none := by
            intro hn
            unfold gd at hg
            simp only [hn, Option.some.injEq, reduceCtorEq] at hg
          refine ⟨by simp, ?_, ?_⟩
          · intro j i' r' hl hrj hea
            cases j with
            | zero =>
              simp only [List.getElem?_cons_zero, Option.some.injEq] at hl hrj
              subst hl hrj
              simp only [effAlways, Bool.and_eq_true, Option.isNone_iff_eq_none] at hea
              exact absurd hea.1.1 hgn
            | succ j =>
              simp only [List.getElem?_cons_succ] at hl hrj
              exact hout.eff j i' r' hl hrj hea
          · intro j i' r' hl hrj hrh hcls hwn p hp hep hlim
            cases j with
            | zero =>
              simp only [List.getElem?_cons_zero, Option.some.injEq] at hl hrj
              subst hl hrj
              exact absurd hwn hwf
            | succ j =>
              simp only [List.getElem?_cons_succ] at hl hrj
              refine hout.rd j i' r' hl hrj hrh hcls hwn p hp ?_ (by rw [show k + 1 + j = k + (j + 1) by omega]; exact hlim)
              rcases hep with h2 | ⟨h2, h3, r1, r2, h4, h5, h6, h7⟩
              · exact .inl h2
              · by_cases hpk1 : p = k + 1
                · subst hpk1
                  simp only [Nat.add_sub_cancel, Nat.sub_self, List.getElem?_cons_zero, Option.some.injEq] at h4
                  subst h4
                  cases h5
                · refine .inr ⟨by omega, by omega, r1, r2, ?_, h5, ?_, h7⟩
                  · rw [show p - 1 - k = (p - 1 - (k + 1)) + 1 by omega, List.getElem?_cons_succ] at h4
                    exact h4
                  · rw [show p - k = (p - (k + 1)) + 1 by omega, List.getElem?_cons_succ] at h6
                    exact h6
end
end Go.Sv
namespace Go.Sv
open Go Go.RowKit Go.Sx

def F_selR (z : AV) (h : AHeap) : List AV → AR
  | [.chan (some i)] => match h.get i with
    | some (.chan cap (v :: buf)) => some (.tuple [.int .i64 0, .bool true, v], h.set i (.chan cap buf))
    | some (.chan cap []) => some (.tuple [.int .i64 (-1), .bool false, z], h)
    | _ => none
  | _ => none
def F_selS (h : AHeap) : List AV → AR
  | [.chan (some i), v] => match h.get i with
    | some (.chan cap buf) => if buf.length < cap then some (.tuple [.int .i64 0, .bool false], h.set i (.chan cap (buf ++ [v])))
      else some (.tuple [.int .i64 (-1), .bool false], h)
    | _ => none
  | _ => none

def ssv (P : Program) (G : Nat → Option Nat) (o : Oper) : Option QOp :=
  match o.op with
  | .select ⟨[s]⟩ false => match opd G s.chan, azero P s.elem, s.send with
    | some c, some z, none => some (.op (F_selR z) [c])
    | some c, some z, some x => match opd G x with
      | some y => some (.op F_selS [c, y])
      | none => none
    | _, _, _ => none
  | _ => none

inductive VCd where
  | skip
  | reg (l : List QO)
  | sel (d : Option Nat) (q : QOp) (l : List QO)
  | drw (l : List DO)
  | seq (a b : VCd)
  | cond (c : Opd) (x y : VCd)
  | block (id : Nat) (c : VCd)
  | loop (c : VCd)
  | exit (id : Nat)
  | ret
  | bad

def vcode (P : Program) (G : Nat → Option Nat) (N : Nat) : Code → VCd
  | .skip => .skip
  | .label _ => .skip
  | .region id ops draw =>
    if draw then
      if statOk ops (plan ops) then match dlist P G N ops (plan ops) 0 (plan ops) with
        | some l => .drw l
        | none => .bad
      else .bad
    else match ops.toList with
      | [] => .skip
      | o :: rest => if isSelect o.op then
          if o.guard.isNone && dOk N o.dst then match ssv P G o, qlist P G N ops rest with
            | some q, some l => .sel o.dst q l
            | _, _ => .bad
          else .bad
        else match qlist P G N ops (o :: rest) with
          | some l => .reg l
          | none => .bad
  | .seq a b => .seq (vcode P G N a) (vcode P G N b)
  | .cond c x y => match opd G c with
    | some c => .cond c (vcode P G N x) (vcode P G N y)
    | none => .bad
  | .block id c => .block id (vcode P G N c)
  | .loop c => .loop (vcode P G N c)
  | .exit id => .exit id
  | .ret => .ret
  | _ => .bad

section
variable (P : Program) (G : Nat → Option Nat) (ov : FuncId → Option (List AV → AHeap → Option (AV × AHeap)))

/-- a condition -/
def xc (v : AV) (x y : Prop) : Prop :=
  match v with
  | .bool b => if b = true then x else y
  | _ => False

/-- what follows, by how code ends -/
def aft (id : Nat) (K : AExit → Fr → AHeap → Prop) : AExit → Fr → AHeap → Prop
  | .exit i => if i = id then K .normal else K (.exit i)
  | e => K e
def nxt (X : Fr → AHeap → Prop) (K : AExit → Fr → AHeap → Prop) : AExit → Fr → AHeap → Prop
  | .normal => X
  | e => K e

/-- what must hold ahead of code -/
def WC : VCd → Fr → AHeap → (AExit → Fr → AHeap → Prop) → Prop
  | .skip, t, h, K => K .normal t h
  | .reg l, t, h, K => VQ P G ov l t h (K .normal)
  | .sel d q l, t, h, K => RQ P G ov t h q fun v h' => VQ P G ov l (fput t d v) h' (K .normal)
  | .drw l, t, h, K => VD P G ov l 0 [(0, h)] t h (K .normal)
  | .seq a b, t, h, K => WC a t h (nxt (fun t h => WC b t h K) K)
  | .cond c x y, t, h, K => xc (oev t c) (WC x t h K) (WC y t h K)
  | .block id c, t, h, K => WC c t h (aft id K)
  | .loop c, t, h, K => ∀ X : Fr → AHeap → Prop, (∀ t h, WC c t h (nxt X K) → X t h) → X t h
  | .exit id, t, h, K => K (.exit id) t h
  | .ret, t, h, K => K .ret t h
  | .bad, t, h, K => False
end

section
variable {P : Program} {G : Nat → Option Nat} {ov : FuncId → Option (List AV → AHeap → Option (AV × AHeap))} {N : Nat}

theorem arunC_len {call : CallF} {ops : Array Oper} : ∀ (l : List Nat) (t : List AV) (h : AHeap) (rs : List Rec) (t' : List AV) (h' : AHeap), arunC P G call ops l t h = some (rs, t', h') → rs.length = l.length
  | [], t, h, rs, t', h', hs => by
    simp only [arunC, Option.some.injEq, Prod.mk.injEq] at hs
    rw [← hs.1]; rfl
  | i :: is, t, h, rs, t', h', hs => by
    unfold arunC at hs
    simp only at hs
    split at hs
    · split at hs
      · split at hs
        · rename_i h1
          simp only [Option.some.injEq, Prod.mk.injEq] at hs
          rw [← hs.1, List.length_cons, List.length_cons, arunC_len is _ _ _ _ _ h1]
        · cases hs
      · cases hs
    · split at hs
      · rename_i h1
        simp only [Option.some.injEq, Prod.mk.injEq] at hs
        rw [← hs.1, List.length_cons, List.length_cons, arunC_len is _ _ _ _ _ h1]
      · cases hs

theorem adraw_of {ops : Array Oper} {dl : List DO} {t : List AV} {f : Fr} {h : AHeap} {K : Fr → AHeap → Prop} (hst : statOk ops (plan ops) = true) (hd : dlist P G N ops (plan ops) 0 (plan ops) = some dl) (r : Rep N t f)
    (hw : VD P G ov dl 0 [(0, h)] f h K) : ∃ n t' h' f', (∀ m, n ≤ m → adraw P G (acall P G ov m) ops t h = some (t', h')) ∧ Rep N t' f' ∧ K f' h' := by
  obtain ⟨n, rs, t', h', f', hr, hrep, hk, hout⟩ := VD_sound (plan ops) 0 [(0, h)] dl t f h hd r rfl (fun _ => rfl) hw
  refine ⟨n, t', h', f', fun m hm => ?_, hrep, hk⟩
  have hlen := arunC_len _ _ _ _ _ _ (hr m hm)
  have hst' := hst
  simp only [statOk, Bool.and_eq_true, beq_iff_eq] at hst'
  have hplen : (plan ops).length = ops.size := hst'.1.1.1.1.1.1.1.1.1
  unfold adraw
  rw [if_pos hst, hr m hm]
  simp only
  rw [if_pos]
  unfold chkReads
  simp only [Bool.or_eq_true]
  refine .inr (List.all_eq_true.2 ?_)
  intro k hk
  have hkl : k < ops.size := List.mem_range.1 hk
  have hkr : k < rs.length := by rw [hlen, hplen]; exact hkl
  have hpik : (plan ops)[k]? = some ((plan ops).getD k 0) := by
    rw [List.getD_eq_getElem?_getD, List.getElem?_eq_getElem (by rw [hplen]; exact hkl)]; rfl
  have hget : ∀ j, j < rs.length → rs[j]? = some (rs.getD j default) := by
    intro j hj
    rw [List.getD_eq_getElem?_getD, List.getElem?_eq_getElem hj]; rfl
  by_cases hrh : readsHeap (ops.getD ((plan ops).getD k 0) default).op = true
  case neg => simp only [hrh, Bool.not_false, Bool.true_or]
  by_cases hcl : (rs.getD k default).cls = .rd
  case neg => simp only [decide_eq_false hcl, Bool.not_false, Bool.or_true, Bool.true_or]
  by_cases hwn : Region.wanted (ops.getD ((plan ops).getD k 0) default) (ayield ops (rs.getD k default).t) = true
  case neg => simp only [hwn, Bool.not_false, Bool.or_true, Bool.true_or]
  simp only [Bool.or_eq_true]
  refine .inr (List.all_eq_true.2 ?_)
  intro p hp
  have hpk : p ≤ k := by have := List.mem_range.1 hp; omega
  simp only [Bool.or_eq_true, Bool.not_eq_true', Bool.or_eq_false_iff]
  by_cases hep : p = 0 ∨ (rs.getD (p - 1) default).cls = .eff
  case neg =>
    refine .inl (.inl ⟨?_, ?_⟩)
    · simpa using fun h => hep (.inl h)
    · simpa using fun h => hep (.inr h)
  by_cases hlim : p < limOf ops (plan ops) k
  · refine .inl (.inr ?_)
    obtain ⟨m, hmk, h1, h2, h3⟩ := limOf_spec hlim
    refine List.any_eq_true.2 ⟨m, List.mem_range.2 (by omega), ?_⟩
    have hpm : (plan ops)[m]? = some ((plan ops).getD m 0) := by
      rw [List.getD_eq_getElem?_getD, List.getElem?_eq_getElem (by rw [hplen]; omega)]; rfl
    have := hout.eff m _ _ hpm (hget m (by omega)) h1
    simp only [this, h2, h3, decide_true, Bool.and_self]
  · refine .inr ?_
    have hE : Ep [(0, h)] 0 rs k p (rs.getD p default).h := by
      rcases Nat.eq_zero_or_pos p with hp0 | hp0
      · subst hp0
        refine .inl ?_
        have := hout.first _ (hget 0 (by omega))
        rw [this]; exact List.mem_singleton.2 rfl
      · refine .inr ⟨hp0, by omega, rs.getD (p - 1) default, rs.getD p default, ?_, ?_, ?_, rfl⟩
        · rw [show p - 1 - 0 = p - 1 by omega]; exact hget _ (by omega)
        · rcases hep with h | h
          · omega
          · exact h
        · exact hget _ (by omega)
    have := hout.rd k _ _ hpik (hget k hkr) hrh hcl hwn p _ hE (by rw [Nat.zero_add]; omega)
    rw [this]
    exact AV.beq_refl _

theorem CW_region_d {id : Nat} {ops : Array Oper} {t : List AV} {h : AHeap} {K : AExit → List AV → AHeap → Prop} {n : Nat} {t' : List AV} {h' : AHeap}
    (hr : ∀ m, n ≤ m → adraw P G (acall P G ov m) ops t h = some (t', h')) (hk : K .normal t' h') : CW P G ov (.region id ops true) t h K := by
  refine ⟨n + 1, .normal, t', h', ?_, hk⟩
  rw [acode_succ]
  simp only [acodeF, if_true, hr (n + 1) (by omega)]
theorem CW_region {id : Nat} {ops : Array Oper} {t : List AV} {h : AHeap} {K : AExit → List AV → AHeap → Prop} {n : Nat} {t' : List AV} {h' : AHeap}
    (hr : ∀ m, n ≤ m → aregion P G (acall P G ov m) ops t h = some (t', h')) (hk : K .normal t' h') : CW P G ov (.region id ops false) t h K := by
  refine ⟨n + 1, .normal, t', h', ?_, hk⟩
  rw [acode_succ]
  simp only [acodeF, Bool.false_eq_true, if_false, hr (n + 1) (by omega)]

theorem ssv_ok {f : Fr} {h : AHeap} {o : Oper} {q : QOp} {K : AV → AHeap → Prop} (hq : ssv P G o = some q) (hw : RQ P G ov f h q K) : ∃ v h', aselect P (fev G f) h o = some (v, h') ∧ K v h' := by
  obtain ⟨dst, op, type, pos, after, guard⟩ := o
  unfold ssv at hq
  split at hq
  case h_2 => cases hq
  rename_i s hop
  simp only at hop
  subst hop
  split at hq
  · rename_i c z hc hz hs
    simp only [Option.some.injEq] at hq
    subst hq
    obtain ⟨v, h', hr, hk⟩ := xr_ex hw
    refine ⟨v, h', ?_, hk⟩
    simp only [aselect, opd_ok (f := f) hc, hz, hs]
    simp only [oevs] at hr
    unfold F_selR at hr
    split at hr
    · rename_i i hi
      simp only [List.cons.injEq, and_true] at hi
      rw [hi]
      simp only
      split at hr
      · rename_i hg; rw [hg]; exact hr
      · rename_i hg; rw [hg]; exact hr
      · cases hr
    · cases hr
  · rename_i c z x hc hz hs
    split at hq
    · rename_i y hy
      simp only [Option.some.injEq] at hq
      subst hq
      obtain ⟨v, h', hr, hk⟩ := xr_ex hw
      refine ⟨v, h', ?_, hk⟩
      have hx := opd_ok (f := f) hy
      simp only [aselect, opd_ok (f := f) hc, hz, hs]
      simp only [oevs] at hr
      unfold F_selS at hr
      split at hr
      · rename_i i v0 hi
        simp only [List.cons.injEq, and_true] at hi
        rw [hi.2] at hx
        rw [hi.1]
        simp only [hx]
        split at hr
        · rename_i hg; rw [hg]; exact hr
        · cases hr
      · cases hr
    · cases hq
  · cases hq

theorem WC_sound : ∀ (c : Code) (t : List AV) (f : Fr) (h : AHeap) (K : AExit → Fr → AHeap → Prop), Rep N t f → WC P G ov (vcode P G N c) f h K → CW P G ov c t h fun e t' h' => ∃ f', Rep N t' f' ∧ K e f' h' := by
  intro c
  induction c with
  | skip => exact fun t f h K r hw => CW_base (e := .normal) (fun n => rfl) ⟨f, r, hw⟩
  | label l => exact fun t f h K r hw => CW_base (e := .normal) (fun n => rfl) ⟨f, r, hw⟩
  | exit id => exact fun t f h K r hw => CW_base (e := .exit id) (fun n => rfl) ⟨f, r, hw⟩
  | ret => exact fun t f h K r hw => CW_base (e := .ret) (fun n => rfl) ⟨f, r, hw⟩
  | region id ops draw =>
    intro t f h K r hw
    unfold vcode at hw
    split at hw
    · rename_i hd
      subst hd
      split at hw
      · rename_i hst
        split at hw
        · rename_i l hl
          obtain ⟨n, t', h', f', h1, h2, h3⟩ := adraw_of hst hl r hw
          exact CW_region_d h1 ⟨f', h2, h3⟩
        · exact hw.elim
      · exact hw.elim
    · rename_i hd
      simp only [Bool.not_eq_true] at hd
      subst hd
      split at hw
      · rename_i hl
        exact CW_base (e := .normal) (fun n => by simp only [acodeF, aregion, hl, Bool.false_eq_true, if_false]) ⟨f, r, hw⟩
      · rename_i o rest hl
        split at hw
        · rename_i hsel
          split at hw
          · rename_i hgd
            simp only [Bool.and_eq_true, Option.isNone_iff_eq_none] at hgd
            split at hw
            · rename_i q l hq hql
              obtain ⟨v, h1, hs, hk⟩ := ssv_ok hq hw
              obtain ⟨n, t', h', f', h2, h3, h4⟩ := VQ_sound rest l _ _ h1 hql (r.put (dst_of hgd.2) v) hk
              refine CW_region (n := n) (t' := t') (h' := h') (fun m hm => ?_) ⟨f', h3, h4⟩
              unfold aregion
              simp only [hl]
              rw [if_pos hsel, if_pos (by simp only [Region.wanted, hgd.1]), r.ev, hs]
              exact h2 m hm
            · exact hw.elim
          · exact hw.elim
        · rename_i hsel
          split at hw
          · rename_i l hql
            obtain ⟨n, t', h', f', h2, h3, h4⟩ := VQ_sound (o :: rest) l t f h hql r hw
            refine CW_region (n := n) (t' := t') (h' := h') (fun m hm => ?_) ⟨f', h3, h4⟩
            unfold aregion
            simp only [hl]
            rw [if_neg hsel]
            exact h2 m hm
          · exact hw.elim
  | seq a b iha ihb =>
    intro t f h K r hw
    refine CW_seq (CW_mono (iha t f h _ r hw) ?_)
    rintro e t1 h1 ⟨f1, r1, hk⟩
    cases e with
    | normal => exact ihb t1 f1 h1 K r1 hk
    | exit i => exact ⟨f1, r1, hk⟩
    | ret => exact ⟨f1, r1, hk⟩
  | cond c x y ihx ihy =>
    intro t f h K r hw
    unfold vcode at hw
    split at hw
    · rename_i c' hc
      simp only [WC, xc] at hw
      split at hw
      · rename_i b hb
        refine CW_cond (b := b) (by rw [r.ev, opd_ok hc, hb]) ?_ ?_
        · rintro rfl
          rw [if_pos rfl] at hw
          exact ihx t f h K r hw
        · rintro rfl
          rw [if_neg (by simp)] at hw
          exact ihy t f h K r hw
      · exact hw.elim
    · exact hw.elim
  | block id c ih =>
    intro t f h K r hw
    refine CW_block (CW_mono (ih t f h _ r hw) ?_)
    rintro e t1 h1 ⟨f1, r1, hk⟩
    cases e with
    | normal => exact ⟨f1, r1, hk⟩
    | ret => exact ⟨f1, r1, hk⟩
    | exit i =>
      simp only [aft] at hk ⊢
      split at hk
      · rename_i hi; rw [if_pos hi]; exact ⟨f1, r1, hk⟩
      · rename_i hi; rw [if_neg hi]; exact ⟨f1, r1, hk⟩
  | loop c ih =>
    intro t f h K r hw
    refine hw (fun f h => ∀ t, Rep N t f → CW P G ov (.loop c) t h fun e t' h' => ∃ f', Rep N t' f' ∧ K e f' h') ?_ t r
    intro f h hr t r
    refine loop_round (CW_mono (ih t f h _ r hr) ?_)
    rintro e t1 h1 ⟨f1, r1, hk⟩
    cases e with
    | normal => exact hk t1 r1
    | exit i => exact ⟨f1, r1, hk⟩
    | ret => exact ⟨f1, r1, hk⟩
  | rangeFunc f ps a b _ _ => exact fun t f h K r hw => hw.elim
  | scope c _ => exact fun t f h K r hw => hw.elim
  | goto l => exact fun t f h K r hw => hw.elim
  | refuse w => exact fun t f h K r hw => hw.elim

/-- a call's end -/
def fin (P : Program) (rs : List ResultVar) (K : AV → AHeap → Prop) : AExit → Fr → AHeap → Prop
  | .exit _, _, _ => False
  | _, f, h => match fresults P rs h f with
    | some v => K v h
    | none => False

/-- A CALL, by its body -/
theorem FW_code {f : FuncId} {fn : Func} {c : Code} {v : VCd} {rs : List ResultVar} {args : List AV} {h : AHeap} {K : AV → AHeap → Prop} (hov : ov f = none) (hf : P.funcs[f]? = some fn) (hb : fn.body = some c)
    (hn : fn.ntmps = N) (hrs : fn.results.toList = rs) (hv : vcode P G N c = v) (ha : args.length ≤ N)
    (hw : WC P G ov v (ini args) h (fin P rs K)) : FW P G ov f args h K := by
  subst hn hv hrs
  obtain ⟨n, e, t', h', hq, f', r, hk⟩ := WC_sound c _ _ h _ (Rep.ini ha) hw
  have key : ∀ e, fin P fn.results.toList K e f' h' → (match e with | .exit _ => False | _ => True) ∧ ∃ v, fresults P fn.results.toList h' f' = some v ∧ K v h' := by
    intro e hk
    cases e with
    | exit i => exact hk.elim
    | normal =>
      simp only [fin] at hk
      split at hk
      · rename_i v hv; exact ⟨trivial, v, hv, hk⟩
      · exact hk.elim
    | ret =>
      simp only [fin] at hk
      split at hk
      · rename_i v hv; exact ⟨trivial, v, hv, hk⟩
      · exact hk.elim
  obtain ⟨hk1, v, hv, hk2⟩ := key e hk
  refine ⟨n + 1, v, h', ?_, hk2⟩
  show (match ov f with | some g => g args h | none => acallF P G n (acall P G ov n) f args h) = _
  rw [hov]
  rw [← fresults_eq (fn := fn) r] at hv
  simp only [acallF, hf, hb]
  unfold aframe
  rw [hq]
  cases e with
  | normal => simp only [hv, Option.map_some]
  | ret => simp only [hv, Option.map_some]
  | exit i => exact hk1.elim
end
end Go.Sv
