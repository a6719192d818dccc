/- DERIVED, by an AI agent: a part of the engine 'Sx' (a machine over values and numbered objects, proved sound against the model's calls): no condition. No person has read it. -/
import Derived.Test.YtlbgokakghchiaaDoorSxFrame
set_option linter.all false
namespace Go.Sx
open Go Go.RowKit

abbrev CallF := FuncId → List AV → AHeap → Option (AV × AHeap)

def aev (G : Nat → Option Nat) (t : List AV) : Operand → Option AV
  | .tmp x => some (t.getD x (.tuple []))
  | .const v => ofV v
  | .global g => (G g).map fun i => .ptr (some (i, 0))
  | .func f => some (.func f [] [])

def aput (t : List AV) (d : Option Tmp) (v : AV) : List AV :=
  match d with
  | some d => t.set d v
  | none => t

def ayield (ops : Array Oper) (t : List AV) (j : Nat) : Option Bool :=
  match ((ops[j]?).bind (·.dst)).bind (t[·]?) with
  | some (.bool b) => some b
  | _ => none

/-- may a function be entered? -/
def acallable (P : Program) (f : FuncId) : Bool :=
  match P.funcs[f]? with
  | some fn => fn.body.isSome && !(fn.name == "runtime.NumGoroutine")
  | none => false

def isGoCall : Op → Bool
  | .call { callee := .value _, .. } => true
  | _ => false

def aeff (P : Program) (call : CallF) (e : Operand → Option AV) (h : AHeap) (o : Oper) : Option (AV × AHeap) :=
  match o.op with
  | .call { callee := .value f, args, .. } =>
    match e f, aops e args.toList with
    | some (.func fn first cap), some as => if acallable P fn then call fn (first ++ as ++ cap) h else none
    | _, _ => none
  | _ => awrite P e h o

structure CallOk (P : Program) (N : Nat) (G : Nat → Option Nat) (call : CallF) : Prop where
  mono : ∀ f args h v h', call f args h = some (v, h') → h.n ≤ h'.n
  sound : ∀ f args h v h', call f args h = some (v, h') → ∀ ρ w, R N G ρ h w → AV.wsL (below h.n) args →
    Calls P f (AV.denL ρ args).toArray w fun e w' => ∃ ρ', e = .returned (v.den ρ') ∧ R N G ρ' h' w' ∧ Stp ρ h w ρ' h' w' ∧ v.ws (below h'.n)

/-- what the frame's slots are -/
structure TR (S : Nat → Prop) (ρ : Env) (t : List AV) (a : Act) : Prop where
  tmps : a.tmps = (AV.denL ρ t).toArray
  defers : a.defers = []
  ws : AV.wsL S t

section
variable {N : Nat} {G : Nat → Option Nat} {ρ ρ' : Env} {h h' : AHeap} {w w' : World} {P : Program} {e : Operand → Option AV} {ev : Operand → Value} {S : Nat → Prop} {t : List AV} {a : Act}

theorem TR.ext (x : TR S ρ t a) (he : Ext S ρ ρ') : TR S ρ' t a := ⟨by rw [x.tmps, denL_ext he t x.ws], x.defers, x.ws⟩
theorem TR.mono {S' : Nat → Prop} (x : TR S ρ t a) (hS : ∀ i, S i → S' i) : TR S' ρ t a := ⟨x.tmps, x.defers, wsL_mono hS t x.ws⟩

theorem getD_den (ρ : Env) (t : List AV) (x : Nat) : (AV.denL ρ t).toArray.getD x undef = (t.getD x (.tuple [])).den ρ := by
  have h1 : undef = (AV.tuple []).den ρ := rfl
  have h2 : (AV.denL ρ t).toArray[x]? = (t[x]?).map (AV.den ρ) := by rw [denL_map]; simp
  rw [Array.getD_eq_getD_getElem?, h2, List.getD_eq_getElem?_getD]
  cases t[x]? with
  | none => exact h1
  | some v => rfl

theorem ws_getD (hw : AV.wsL S t) (x : Nat) : (t.getD x (.tuple [])).ws S := by
  rw [List.getD_eq_getElem?_getD]
  cases hx : t[x]? with
  | none => trivial
  | some v => exact wsL_get hw hx

/-- the operands' meaning -/
def evOf (ρ : Env) (t : List AV) : Operand → Value := Act.eval ⟨(AV.denL ρ t).toArray, []⟩

theorem Evs.mk (hG : ∀ g i, G g = some i → S i ∧ (ρ i).b = g ∧ (ρ i).o = 0) (hw : AV.wsL S t) : Evs (aev G t) (evOf ρ t) ρ S := by
  intro x v hx
  cases x with
  | tmp x =>
    simp only [aev, Option.some.injEq] at hx
    subst hx
    exact ⟨getD_den ρ t x, ws_getD hw x⟩
  | const c =>
    obtain ⟨h1, h2⟩ := den_ofV ρ c v hx
    exact ⟨h1.symm, h2 S⟩
  | global g =>
    simp only [aev] at hx
    cases hg : G g with
    | none => simp [hg] at hx
    | some i =>
      simp only [hg, Option.map_some, Option.some.injEq] at hx
      subst hx
      obtain ⟨h1, h2, h3⟩ := hG g i hg
      refine ⟨?_, h1⟩
      simp only [evOf, Act.eval, AV.den, pAddr, h2, h3]
  | func f =>
    simp only [aev, Option.some.injEq] at hx
    subst hx
    exact ⟨rfl, trivial, trivial⟩

theorem R.globS (r : R N G ρ h w) (hS : ∀ i, i < h.n → S i) : ∀ g i, G g = some i → S i ∧ (ρ i).b = g ∧ (ρ i).o = 0 :=
  fun g i hg => let ⟨a, b, c⟩ := r.glob g i hg; ⟨hS i a, b, c⟩

theorem TR.eval (x : TR S ρ t a) : a.eval = evOf ρ t := by
  funext y
  cases y <;> simp [Act.eval, evOf, x.tmps]

theorem TR.put (x : TR S ρ t a) {v : AV} (hv : v.ws S) (d : Option Tmp) : TR S ρ (aput t d v) (a.put d (v.den ρ)) := by
  cases d with
  | none => exact x
  | some d =>
    refine ⟨?_, x.defers, ?_⟩
    · simp only [Act.put, aput, x.tmps]
      apply Array.ext'
      simp [denL_map, List.map_set]
    · rw [wsL_iff]
      intro u hu
      simp only [aput] at hu
      rcases List.mem_or_eq_of_mem_set hu with hu | rfl
      · exact (wsL_iff _ _).1 x.ws u hu
      · exact hv

theorem ayield_eq (ops : Array Oper) (ρ : Env) (t : List AV) (j : Nat) : yielded ops (AV.denL ρ t).toArray j = ayield ops t j := by
  unfold yielded ayield
  cases (ops[j]?).bind (·.dst) with
  | none => rfl
  | some d =>
    simp only [Option.bind_some]
    have h2 : (AV.denL ρ t).toArray[d]? = (t[d]?).map (AV.den ρ) := by rw [denL_map]; simp
    rw [h2]
    cases t[d]? with
    | none => rfl
    | some v =>
      simp only [Option.map_some]
      cases v <;> first | rfl | (rename_i p; cases p <;> rfl) | (rename_i p _ _ _ _; cases p <;> rfl)

theorem wanted_eq (ops : Array Oper) (ρ : Env) (t : List AV) (o : Oper) : Region.wanted o (yielded ops (AV.denL ρ t).toArray) = Region.wanted o (ayield ops t) := by
  unfold Region.wanted
  cases o.guard with
  | none => rfl
  | some g => simp only [ayield_eq]

theorem awrite_mono {o : Oper} {v : AV} (hs : awrite P e h o = some (v, h')) : h.n ≤ h'.n := by
  have hput : ∀ {i off : Nat} {vs : List AV} {h1 : AHeap}, aput? h i off vs = some h1 → h.n ≤ h1.n := fun {i off vs h1} hq => by
    unfold aput? at hq
    split at hq
    · split at hq
      · simp only [Option.some.injEq] at hq; subst hq; exact Nat.le_refl _
      · cases hq
    · cases hq
  unfold awrite at hs
  split at hs
  · split at hs
    · simp only [Option.some.injEq, Prod.mk.injEq] at hs; rw [← hs.2]; exact Nat.le_succ _
    · cases hs
  · split at hs
    · simp only [Option.some.injEq, Prod.mk.injEq] at hs; rw [← hs.2]; exact Nat.le_succ _
    · cases hs
  · split at hs
    · split at hs
      · rw [Option.map_eq_some_iff] at hs
        obtain ⟨h1, hq, he⟩ := hs
        simp only [Prod.mk.injEq] at he
        rw [← he.2]; exact hput hq
      · cases hs
    · cases hs
  · split at hs
    · unfold abuildSlice at hs
      repeat' split at hs
      all_goals first | (cases hs; done) | (simp only [Option.some.injEq, Prod.mk.injEq] at hs; rw [← hs.2]; exact Nat.le_succ _)
    · cases hs
  · simp only [Option.some.injEq, Prod.mk.injEq] at hs; rw [← hs.2]; exact Nat.le_succ _
  · split at hs
    · unfold amakeChan at hs
      repeat' split at hs
      all_goals first | (cases hs; done) | (simp only [Option.some.injEq, Prod.mk.injEq] at hs; rw [← hs.2]; exact Nat.le_succ _)
    · cases hs
  · split at hs
    · unfold amakeSlice at hs
      repeat' split at hs
      all_goals first | (cases hs; done) | (simp only [Option.some.injEq, Prod.mk.injEq] at hs; rw [← hs.2]; exact Nat.le_succ _)
    · cases hs
  · split at hs
    · rw [Option.map_eq_some_iff] at hs
      obtain ⟨h1, hq, he⟩ := hs
      simp only [Prod.mk.injEq] at he
      rw [← he.2]
      unfold amapUpdate at hq
      repeat' split at hq
      all_goals first | (cases hq; done) | (simp only [Option.some.injEq] at hq; rw [← hq]; exact Nat.le_refl _)
    · cases hs
  · split at hs
    · unfold aappend at hs
      simp only at hs
      repeat' split at hs
      all_goals first
        | (cases hs; done)
        | (simp only [Option.some.injEq, Prod.mk.injEq] at hs; rw [← hs.2]; first | exact Nat.le_refl _ | exact Nat.le_succ _ | (exact hput (by assumption)))
    · cases hs
  · split at hs
    · unfold acopy at hs
      simp only at hs
      repeat' split at hs
      all_goals first
        | (cases hs; done)
        | (simp only [Option.some.injEq, Prod.mk.injEq] at hs; rw [← hs.2]; first | exact Nat.le_refl _ | (exact hput (by assumption)))
    · cases hs
  · cases hs

theorem aeff_mono {call : CallF} (hc : CallOk P N G call) {o : Oper} {v : AV} (hs : aeff P call e h o = some (v, h')) : h.n ≤ h'.n := by
  unfold aeff at hs
  split at hs
  · split at hs
    · split at hs
      · exact hc.mono _ _ _ _ _ hs
      · cases hs
    · cases hs
  · exact awrite_mono hs

/-- a step that changes memory -/
theorem aeff_sound {call : CallF} (hc : CallOk P N G call) (r : R N G ρ h w) (he : Evs e ev ρ (below h.n)) {o : Oper} {v : AV} (hs : aeff P call e h o = some (v, h'))
    {K : Act → World → Prop} {Q : Exit → Act → World → Prop} {a : Act}
    (hK : ∀ ρ' w', R N G ρ' h' w' → Stp ρ h w ρ' h' w' → v.ws (below h'.n) → K (a.put o.dst (v.den ρ')) w') : o.upon P a K Q ((execOp ev o).run P w) := by
  unfold aeff at hs
  split at hs
  · rename_i f args argTypes hop
    obtain ⟨dst, op, type, pos, after, guard⟩ := o
    simp only at hop
    subst hop
    split at hs
    · rename_i fn first cap as hf has
      split at hs
      · rename_i hcall
        obtain ⟨g1, g2⟩ := aops_sound he _ _ has
        have e1 := he.of hf
        obtain ⟨w1, w2⟩ := (he.wsOf hf : AV.wsL (below h.n) first ∧ AV.wsL (below h.n) cap)
        have hw : AV.wsL (below h.n) (first ++ as ++ cap) := wsL_append (wsL_append w1 g2) w2
        have hC := hc.sound fn _ h v h' hs ρ w r hw
        have hrun : (execOp ev { dst, op := .call { callee := .value f, args, argTypes }, type, pos, after, guard }).run P w = .ok (.enter fn (AV.denL ρ (first ++ as ++ cap)).toArray) w := by
          unfold acallable at hcall
          cases hfn : P.funcs[fn]? with
          | none => simp [hfn] at hcall
          | some F =>
            simp only [hfn, Bool.and_eq_true, Bool.not_eq_true'] at hcall
            obtain ⟨hb, hn⟩ := hcall
            have hbn : F.body.isNone = false := by cases hq : F.body <;> simp_all
            have e2 : args.map ev = (AV.denL ρ as).toArray := by rw [← g1]; apply Array.ext'; simp
            simp only [AV.den] at e1
            simp only [execOp, resolve, Deferred.ofValue, e1, e2, invoke, callFunc, Sem.run_bind, Sem.run_pure, Result.andThen_ok, run_program, hfn, hn, hbn, Bool.false_eq_true, if_false]
            congr 2
            apply Array.ext'
            simp [denL_map]
        rw [hrun, Oper.upon_enter]
        refine hC.mono ?_
        rintro en w' ⟨ρ', rfl, k1, k2, k3⟩
        exact hK ρ' w' k1 k2 k3
      · cases hs
    · cases hs
  · obtain ⟨ρ', w', nx, h1, h2, h3, h4, h5⟩ := awrite_sound r he hs
    rw [h1]
    rcases h2 with rfl | ⟨rfl, rfl⟩
    · rw [Oper.upon_value]; exact hK ρ' w' h3 h4 h5
    · rw [Oper.upon_skip]; exact hK ρ' w' h3 h4 h5
end
end Go.Sx
