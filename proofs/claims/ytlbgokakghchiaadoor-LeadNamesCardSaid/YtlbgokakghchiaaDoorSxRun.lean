/- DERIVED, by an AI agent: a part of the engine 'Sx' (a machine over values and numbered objects, proved sound against the model's calls): no condition. No person has read it. -/
import Derived.Test.YtlbgokakghchiaaDoorSxSel
set_option linter.all false
namespace Go.Sx
open Go Go.RowKit Go.Conc

/-! ### the machine -/
inductive AExit where
  | normal
  | exit (id : Nat)
  | ret
  deriving DecidableEq

abbrev ARes := Option (AExit × List AV × AHeap)

/-- one operation of a region that runs in its order -/
def aop (P : Program) (call : CallF) (e : Operand → Option AV) (h : AHeap) (o : Oper) : Option (AV × AHeap) :=
  if isAl o.op || isEffOp o.op then aeff P call e h o else (aread P e h o).map fun v => (v, h)

def alist (P : Program) (G : Nat → Option Nat) (call : CallF) (ops : Array Oper) : List Oper → List AV → AHeap → Option (List AV × AHeap)
  | [], t, h => some (t, h)
  | o :: rest, t, h =>
    if Region.wanted o (ayield ops t) then
      match aop P call (aev G t) h o with
      | some (v, h') => alist P G call ops rest (aput t o.dst v) h'
      | none => none
    else alist P G call ops rest (aput t o.dst (.tuple [])) h

def aregion (P : Program) (G : Nat → Option Nat) (call : CallF) (ops : Array Oper) (t : List AV) (h : AHeap) : Option (List AV × AHeap) :=
  match ops.toList with
  | [] => some (t, h)
  | o :: rest =>
    if isSelect o.op then
      if Region.wanted o (ayield ops t) then
        match aselect P (aev G t) h o with
        | some (v, h') => alist P G call ops rest (aput t o.dst v) h'
        | none => none
      else none
    else alist P G call ops (o :: rest) t h

def aloop (body : List AV → AHeap → ARes) : Nat → List AV → AHeap → ARes
  | 0, _, _ => none
  | m + 1, t, h => match body t h with
    | some (.normal, t', h') => aloop body m t' h'
    | r => r

def acodeF (P : Program) (G : Nat → Option Nat) (call : CallF) (n : Nat) (rec : Code → List AV → AHeap → ARes) (c : Code) (t : List AV) (h : AHeap) : ARes :=
  match c with
  | .skip => some (.normal, t, h)
  | .label _ => some (.normal, t, h)
  | .region _ ops draw => match (if draw then adraw P G call ops t h else aregion P G call ops t h) with
    | some (t', h') => some (.normal, t', h')
    | none => none
  | .seq a b => match rec a t h with
    | some (.normal, t', h') => rec b t' h'
    | r => r
  | .cond c x y => match aev G t c with
    | some (.bool true) => rec x t h
    | some (.bool false) => rec y t h
    | _ => none
  | .block id c => match rec c t h with
    | some (.exit i, t', h') => if i = id then some (.normal, t', h') else some (.exit i, t', h')
    | r => r
  | .loop c => aloop (rec c) n t h
  | .exit id => some (.exit id, t, h)
  | .ret => some (.ret, t, h)
  | _ => none

def acode (P : Program) (G : Nat → Option Nat) (call : CallF) (n : Nat) : Code → List AV → AHeap → ARes :=
  Nat.rec (fun _ _ _ => none) (fun n rec => acodeF P G call n rec) n

def aresult (P : Program) (h : AHeap) (t : List AV) : ResultVar → Option AV
  | .tmp x => some (t.getD x (.tuple []))
  | .cell a ty => match t.getD a (.tuple []) with
    | .ptr (some (i, o)) => aload P h ty i o
    | _ => none

def aresultL (P : Program) (h : AHeap) (t : List AV) : List ResultVar → Option (List AV)
  | [] => some []
  | r :: rs => match aresult P h t r, aresultL P h t rs with
    | some v, some vs => some (v :: vs)
    | _, _ => none

def aresults (P : Program) (fn : Func) (h : AHeap) (t : List AV) : Option AV :=
  match aresultL P h t fn.results.toList with
  | some [v] => some v
  | some vs => some (.tuple vs)
  | none => none

def aframe (fn : Func) (args : List AV) : List AV := args ++ List.replicate (fn.ntmps - args.length) (.tuple [])

def acallF (P : Program) (G : Nat → Option Nat) (n : Nat) (call : CallF) (f : FuncId) (args : List AV) (h : AHeap) : Option (AV × AHeap) :=
  match P.funcs[f]? with
  | some fn => match fn.body with
    | some c => match acode P G call n c (aframe fn args) h with
      | some (.normal, t, h') => (aresults P fn h' t).map fun v => (v, h')
      | some (.ret, t, h') => (aresults P fn h' t).map fun v => (v, h')
      | _ => none
    | none => none
  | none => none

/-- `ov`: functions of which something else is known -/
def acall (P : Program) (G : Nat → Option Nat) (ov : FuncId → Option (List AV → AHeap → Option (AV × AHeap))) (n : Nat) : CallF :=
  Nat.rec (fun _ _ _ => none) (fun n call f args h => match ov f with
    | some g => g args h
    | none => acallF P G n call f args h) n

/-! ### what it says is so -/
section
variable {N : Nat} {G : Nat → Option Nat} {ρ ρ' : Env} {h h' : AHeap} {w w' : World} {P : Program} {call : CallF} {t t' : List AV} {a : Act}
  {Q : Exit → Act → World → Prop}

theorem aop_mono (hc : CallOk P N G call) {e : Operand → Option AV} {o : Oper} {v : AV} (hs : aop P call e h o = some (v, h')) : h.n ≤ h'.n := by
  unfold aop at hs
  split at hs
  · exact aeff_mono hc hs
  · rw [Option.map_eq_some_iff] at hs
    obtain ⟨u, _, hq⟩ := hs
    simp only [Prod.mk.injEq] at hq
    rw [← hq.2]; exact Nat.le_refl _

theorem alist_mono (hc : CallOk P N G call) {ops : Array Oper} : ∀ (l : List Oper) (t : List AV) (h : AHeap), alist P G call ops l t h = some (t', h') → h.n ≤ h'.n
  | [], t, h, hs => by simp only [alist, Option.some.injEq, Prod.mk.injEq] at hs; rw [← hs.2]; exact Nat.le_refl _
  | o :: rest, t, h, hs => by
    unfold alist at hs
    split at hs
    · split at hs
      · rename_i v h1 h2
        exact Nat.le_trans (aop_mono hc h2) (alist_mono hc rest _ _ hs)
      · cases hs
    · exact alist_mono hc rest _ _ hs

theorem aop_sound (hc : CallOk P N G call) (r : R N G ρ h w) (x : TR (below h.n) ρ t a) {o : Oper} {v : AV} (hs : aop P call (aev G t) h o = some (v, h'))
    {K : Act → World → Prop} (hK : ∀ ρ' a' w', R N G ρ' h' w' → Stp ρ h w ρ' h' w' → TR (below h'.n) ρ' (aput t o.dst v) a' → K a' w') : o.wp P a w K Q := by
  have he : Evs (aev G t) (evOf ρ t) ρ (below h.n) := Evs.mk (r.globS fun _ hi => hi) x.ws
  unfold Oper.wp
  rw [x.eval]
  unfold aop at hs
  split at hs
  · refine aeff_sound hc r he hs ?_
    intro ρ' w' k1 k2 k3
    exact hK ρ' _ w' k1 k2 ((x.ext k2.ext).mono (fun i hi => Nat.lt_of_lt_of_le hi k2.n) |>.put k3 _)
  · rw [Option.map_eq_some_iff] at hs
    obtain ⟨u, hu, hq⟩ := hs
    simp only [Prod.mk.injEq] at hq
    obtain ⟨rfl, rfl⟩ := hq
    obtain ⟨k1, k2⟩ := aread_sound r (fun _ hi => hi) he hu
    rw [k1, Oper.upon_value]
    exact hK ρ _ w r (Stp.refl _ _ _) (x.put k2 _)

theorem alist_sound (hc : CallOk P N G call) {ops : Array Oper} : ∀ (l : List Oper) (t : List AV) (h : AHeap) (ρ : Env) (a : Act) (w : World), R N G ρ h w → TR (below h.n) ρ t a →
    alist P G call ops l t h = some (t', h') →
    (∀ ρ' a' w', R N G ρ' h' w' → Stp ρ h w ρ' h' w' → TR (below h'.n) ρ' t' a' → Q .normal a' w') → wpList P ops Q l a w
  | [], t, h, ρ, a, w, r, x, hs, hQ => by
    simp only [alist, Option.some.injEq, Prod.mk.injEq] at hs
    obtain ⟨rfl, rfl⟩ := hs
    exact hQ ρ a w r (Stp.refl _ _ _) x
  | o :: rest, t, h, ρ, a, w, r, x, hs, hQ => by
    unfold alist at hs
    unfold wpList
    rw [x.tmps, wanted_eq]
    split at hs
    · rename_i hw
      rw [if_pos hw]
      split at hs
      · rename_i v h1 h2
        refine .inl (aop_sound hc r x h2 ?_)
        intro ρ1 a1 w1 k1 k2 k3
        refine alist_sound hc rest _ _ ρ1 a1 w1 k1 k3 hs ?_
        intro ρ2 a2 w2 q1 q2 q3
        exact hQ ρ2 a2 w2 q1 (k2.trans q2) q3
      · cases hs
    · rename_i hw
      rw [if_neg hw]
      exact alist_sound hc rest _ _ ρ _ w r (x.put (v := .tuple []) trivial _) hs hQ

theorem aregion_mono (hc : CallOk P N G call) {ops : Array Oper} (hs : aregion P G call ops t h = some (t', h')) : h.n ≤ h'.n := by
  unfold aregion at hs
  split at hs
  · simp only [Option.some.injEq, Prod.mk.injEq] at hs; rw [← hs.2]; exact Nat.le_refl _
  · split at hs
    · split at hs
      · split at hs
        · rename_i v h1 h2
          exact Nat.le_trans (aselect_mono h2) (alist_mono hc _ _ _ hs)
        · cases hs
      · cases hs
    · exact alist_mono hc _ _ _ hs

theorem aregion_sound (hc : CallOk P N G call) {id : Nat} {ops : Array Oper} (r : R N G ρ h w) (x : TR (below h.n) ρ t a)
    (hs : aregion P G call ops t h = some (t', h'))
    (hQ : ∀ ρ' a' w', R N G ρ' h' w' → Stp ρ h w ρ' h' w' → TR (below h'.n) ρ' t' a' → Q .normal a' w') : (Code.region id ops false).wp P Q a w := by
  unfold aregion at hs
  split at hs
  · rename_i hl
    simp only [Option.some.injEq, Prod.mk.injEq] at hs
    obtain ⟨rfl, rfl⟩ := hs
    refine wp_region_list ?_
    rw [hl]
    exact hQ ρ a w r (Stp.refl _ _ _) x
  · rename_i o rest hl
    split at hs
    · split at hs
      · rename_i hw
        split at hs
        · rename_i v h1 h2
          intro b k cs
          have ho : ops[0]? = some o := by rw [← Array.getElem?_toList, hl]; rfl
          have hsz : ops.size = rest.length + 1 := by rw [← Array.length_toList, hl]; rfl
          have hr : List.range ops.size = 0 :: List.range' 1 rest.length := by rw [hsz, List.range_eq_range', List.range'_succ]
          have he : Evs (aev G t) (evOf ρ t) ρ (below h.n) := Evs.mk (r.globS fun _ hi => hi) x.ws
          have hg := stepG_op (P := P) (b := b) (k := k) (cs := cs) (w := w) (a := a) (rest := List.range' 1 rest.length) ho (by rw [x.tmps, wanted_eq]; exact hw)
          rw [x.eval] at hg
          obtain ⟨w1, q1, q2, q3, q4⟩ := aselect_step r he h2 (fr := b.at a (.inRegion ops (0 :: List.range' 1 rest.length) :: k)) (cs := cs) hg
          rw [Frame.finish_at, ho] at q1
          have x1 : TR (below h1.n) ρ (aput t o.dst v) (a.put o.dst (v.den ρ)) := (x.mono (fun i hi => Nat.lt_of_lt_of_le hi q3.n)).put q4 _
          have hwp := alist_sound (Q := Q) hc rest _ _ ρ _ w1 q2 x1 hs (fun ρ2 a2 w2 z1 z2 z3 => hQ ρ2 a2 w2 z1 (q3.trans z2) z3)
          rw [← wpOps_eq_wpList rest 1 (by
            intro j
            rw [← Array.getElem?_toList, hl, Nat.add_comm 1 j]; rfl)] at hwp
          obtain ⟨e, a', w', hq, harr⟩ := wp_ops _ _ _ hwp b k cs
          refine ⟨e, a', w', hq, .of_steps (.head step_region (.one ?_)) harr⟩
          rw [hr]
          exact q1
        · cases hs
      · cases hs
    · refine wp_region_list ?_
      rw [hl]
      exact alist_sound hc _ _ _ ρ a w r x hs hQ

/-- what a run of code is -/
def CodeOk (P : Program) (N : Nat) (G : Nat → Option Nat) (run : Code → List AV → AHeap → ARes) : Prop :=
  ∀ c t h e t' h', run c t h = some (e, t', h') → h.n ≤ h'.n ∧ ∀ ρ a w, R N G ρ h w → TR (below h.n) ρ t a → ∀ Q : Exit → Act → World → Prop,
    (∀ ρ' a' w', R N G ρ' h' w' → Stp ρ h w ρ' h' w' → TR (below h'.n) ρ' t' a' →
      Q (match e with | .normal => .normal | .exit id => .exit id | .ret => .ret) a' w') → c.wp P Q a w
end
end Go.Sx
