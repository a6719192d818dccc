/- DERIVED, by an AI agent: a part of the engine 'Sx' (a machine over values and numbered objects, proved sound against the model's calls): no condition. No person has read it. -/
import Derived.Test.YtlbgokakghchiaaDoorSxStep
set_option linter.all false
namespace Go.Sx
open Go Go.RowKit

def isAl : Op → Bool
  | .alloc _ | .box _ _ | .buildSlice _ _ _ => true
  | _ => false

section
variable {N : Nat} {G : Nat → Option Nat} {ρ ρ' : Env} {h h' : AHeap} {w w' : World} {P : Program} {e e' : Operand → Option AV} {ev : Operand → Value} {S : Nat → Prop}

theorem azero_ws {t : TypeId} {v : AV} (hz : azero P t = some v) (S : Nat → Prop) : v.ws S := by
  unfold azero at hz
  split at hz
  · split at hz
    · exact (den_ofV ρ0 _ v hz).2 S
    · cases hz
  · cases hz

/-- the operations that only make a new block: in whatever world -/
theorem al_sound (he : Evs e ev ρ S) {o : Oper} {v : AV} (ha : isAl o.op = true) (hs : awrite P e h o = some (v, h')) :
    ∃ cs esz, h' = h.alloc (.cells cs false esz) ∧ AV.wsL S cs ∧ v.ws (fun i => i = h.n) ∧
      ∀ w, ∃ E, (execOp ev o).run P w = .ok (.value (v.den (upd ρ h.n ⟨w.heap.size, 0, 0⟩))) (w.alloc (.cells (AV.denL ρ cs).toArray E)) := by
  unfold awrite at hs
  obtain ⟨dst, op, type, pos, after, guard⟩ := o
  split at hs <;> rename_i hop <;> simp only at hop <;> (try (subst hop; simp [isAl] at ha; done))
  · rename_i el
    subst hop
    split at hs
    · rename_i z hz
      simp only [Option.some.injEq, Prod.mk.injEq] at hs
      obtain ⟨rfl, rfl⟩ := hs
      refine ⟨z.cells, 1, rfl, ws_cells z (azero_ws hz S), rfl, fun w => ⟨el, ?_⟩⟩
      obtain ⟨z1, z2⟩ := azero_sound (ρ := ρ) hz w S
      simp only [execOp, Instr.alloc, Sem.run_bind, z1, Result.andThen_ok, newVar, newRow, run_newObj, Sem.run_pure, den_cells, AV.den, upd_self, pAddr]
      rfl
    · cases hs
  · rename_i el x
    subst hop
    split at hs
    · rename_i u hx
      simp only [Option.some.injEq, Prod.mk.injEq] at hs
      obtain ⟨rfl, rfl⟩ := hs
      refine ⟨u.cells, 1, rfl, ws_cells u (he x u hx).2, rfl, fun w => ⟨el, ?_⟩⟩
      simp only [execOp, Instr.box, Sem.run_bind, Result.andThen_ok, newVar, newRow, run_newObj, Sem.run_pure, (he x u hx).1, den_cells, AV.den, upd_self, pAddr]
      rfl
    · cases hs
  · rename_i t len parts
    subst hop
    split at hs
    · rename_i ps hps
      obtain ⟨g1, g2⟩ := aparts_sound he _ _ hps
      unfold abuildSlice at hs
      split at hs
      case h_2 => cases hs
      rename_i el hd
      split at hs
      case h_2 => cases hs
      rename_i inf zr hi hz
      split at hs
      case isFalse => cases hs
      rename_i hc
      obtain ⟨hzl, hsz⟩ := hc
      split at hs
      case h_2 => cases hs
      rename_i cs hf
      simp only [Option.some.injEq, Prod.mk.injEq] at hs
      obtain ⟨rfl, rfl⟩ := hs
      obtain ⟨f1, f2⟩ := afill_sound (ρ := ρ) _ ps _ cs hf (azeros_ws (ws_cells zr (azero_ws hz S)) len) g2
      refine ⟨cs, inf.size, rfl, f2, rfl, fun w => ⟨el, ?_⟩⟩
      obtain ⟨z1, z2⟩ := azero_sound (ρ := ρ) hz w S
      have hinit : ∀ zc : Array Value, (len * inf.size = 0 ∧ zc = #[]) ∨ zc = (zr.den ρ).cells →
          (Array.range (len * inf.size)).map (zc[· % zc.size]!) = (AV.denL ρ (azeros zr.cells len)).toArray := by
        intro zc hzc
        rcases hzc with ⟨h0, rfl⟩ | rfl
        · have : azeros zr.cells len = [] := by
            apply List.eq_nil_of_length_eq_zero; rw [azeros_length, hzl, h0]
          simp [h0, this, AV.denL]
        · rw [den_cells, ← hzl]; exact zeros_eq ρ zr.cells len
      have hgt : ¬ (len * inf.size > 2 ^ 24) := by omega
      have f1' : Instr.fill (fun i => some (i * inf.size, inf.size)) (AV.denL ρ (azeros zr.cells len)).toArray (ps.map fun p => (p.1, p.2.den ρ)) = some (AV.denL ρ cs).toArray := f1
      have hp : (parts.map fun (x : Nat × Operand) => (x.1, ev x.2)) = (ps.map fun p => (p.1, p.2.den ρ)).toArray := by
        rw [← g1]; apply Array.ext'; simp
      simp only [execOp, hp, Instr.buildSlice, Sem.run_bind, run_underlying hd, Result.andThen_ok, run_sizeOf hi, hgt, if_false, Sem.run_pure]
      by_cases h0 : len * inf.size = 0
      · rw [if_pos h0]
        simp only [Sem.run_bind, Sem.run_pure, Result.andThen_ok]
        rw [hinit #[] (.inl ⟨h0, rfl⟩)]
        simp only [List.toList_toArray, f1', newRow, Sem.run_bind, run_newObj, Sem.run_pure, Result.andThen_ok, AV.den, upd_self, sAddr, pAddr, Bool.false_eq_true, if_false]
        rfl
      · rw [if_neg h0]
        simp only [Sem.run_bind, z1, Sem.run_pure, Result.andThen_ok]
        rw [hinit _ (.inr rfl)]
        simp only [List.toList_toArray, f1', newRow, Sem.run_bind, run_newObj, Sem.run_pure, Result.andThen_ok, AV.den, upd_self, sAddr, pAddr, Bool.false_eq_true, if_false]
        rfl
    · cases hs
  · cases hs

/-! ### what an operation does hangs on its operands alone -/
theorem abounds_congr {len cap : Nat} {lo hi mx : Option Operand} (h1 : ∀ x, lo = some x → e x = e' x) (h2 : ∀ x, hi = some x → e x = e' x) (h3 : ∀ x, mx = some x → e x = e' x) :
    abounds e len cap lo hi mx = abounds e' len cap lo hi mx := by
  unfold abounds
  cases lo <;> cases hi <;> cases mx <;> simp_all

theorem aparts_congr : ∀ (l : List (Nat × Operand)), (∀ p, p ∈ l → e p.2 = e' p.2) → aparts e l = aparts e' l
  | [], _ => rfl
  | (i, x) :: r, hh => by
    have h0 := hh (i, x) (List.mem_cons_self ..)
    simp only at h0
    simp only [aparts, h0, aparts_congr r (fun p hp => hh p (List.mem_cons_of_mem _ hp))]

theorem aops_congr : ∀ (l : List Operand), (∀ p, p ∈ l → e p = e' p) → aops e l = aops e' l
  | [], _ => rfl
  | x :: r, hh => by
    simp only [aops, hh x (List.mem_cons_self ..), aops_congr r (fun p hp => hh p (List.mem_cons_of_mem _ hp))]

theorem all_congr' {α : Type} (f g : α → Bool) : ∀ l : List α, (∀ x, x ∈ l → f x = g x) → l.all f = l.all g
  | [], _ => rfl
  | x :: r, hh => by simp only [List.all_cons, hh x (List.mem_cons_self ..), all_congr' f g r (fun p hp => hh p (List.mem_cons_of_mem _ hp))]

theorem apure_congr {o : Oper} (hh : ∀ x, x ∈ o.op.operands → e x = e' x) : apure P e o = apure P e' o := by
  unfold apure
  have h1 : (o.op.operands.toList.all fun x => oclosed (e x)) = o.op.operands.toList.all fun x => oclosed (e' x) :=
    all_congr' _ _ _ fun x hx => by rw [hh x (by simpa using hx)]
  rw [h1]
  by_cases hsel : isSelect o.op = true
  · simp [hsel]
  · have h2 : execOp (fun x => oden (e x)) o = execOp (fun x => oden (e' x)) o :=
      execOp_congr o (fun cs b hq => by rw [hq] at hsel; exact hsel rfl) (fun x hx => by rw [hh x hx])
    rw [h2]

theorem aread_congr {o : Oper} (hh : ∀ x, x ∈ o.op.operands → e x = e' x) : aread P e h o = aread P e' h o := by
  have hp := apure_congr (P := P) hh
  obtain ⟨dst, op, type, pos, after, guard⟩ := o
  unfold aread
  cases op with
  | call c =>
    simp only at hh ⊢
    obtain ⟨callee, args, argTypes⟩ := c
    cases callee with
    | builtin b =>
      cases b <;> simp only <;> first | exact hp | skip
      have : (args[0]?).bind e = (args[0]?).bind e' := by
        cases h0 : args[0]? with
        | none => rfl
        | some x =>
          refine hh x ?_
          simp only [Op.operands, Call.operands, List.append_toArray, Array.empty_append]
          exact Array.mem_of_getElem? h0
      rw [this, hp]
    | value f => exact hp
    | invoke r m => exact hp
  | makeFunc fn first captured =>
    cases fn <;> simp only <;> first | exact hp | skip
    rw [aops_congr (e := e) (e' := e') first.toList (fun x hx => hh x (by simp [Op.operands]; exact .inl (by simpa using hx))), aops_congr (e := e) (e' := e') captured.toList (fun x hx => hh x (by simp [Op.operands]; exact .inr (by simpa using hx)))]
  | build t parts =>
    simp only
    rw [aparts_congr (e := e) (e' := e') parts.toList (fun p hp => hh p.2 (by simp [Op.operands]; exact ⟨p.1, by simpa using hp⟩))]
  | slice t x lo hi mx =>
    simp only
    have hx : e x = e' x := hh x (by simp [Op.operands])
    have hb : ∀ len cap, abounds e len cap lo hi mx = abounds e' len cap lo hi mx := fun len cap => abounds_congr
      (fun y hy => hh y (by simp [Op.operands, hy])) (fun y hy => hh y (by simp [Op.operands, hy])) (fun y hy => hh y (by simp [Op.operands, hy]))
    have hsl : ∀ v, asliceAt P e t v lo hi mx = asliceAt P e' t v lo hi mx := fun v => by
      unfold asliceAt; simp only [hb]
    rw [hx, hp]
    simp only [hsl]
  | _ =>
    simp only
    first
      | exact hp
      | (rw [hh _ (by simp [Op.operands])]; done)
      | (rw [hh _ (by simp [Op.operands]), hp]; done)
      | (simp only [Op.operands] at hh; simp_all; done)

theorem awrite_al_congr {o : Oper} (ha : isAl o.op = true) (hh : ∀ x, x ∈ o.op.operands → e x = e' x) : awrite P e h o = awrite P e' h o := by
  obtain ⟨dst, op, type, pos, after, guard⟩ := o
  unfold awrite
  cases op <;> first | (simp [isAl] at ha; done) | skip
  · simp only
  · rename_i el x
    simp only [hh x (by simp [Op.operands])]
  · rename_i t len parts
    simp only
    rw [aparts_congr (e := e) (e' := e') parts.toList (fun p hp => hh p.2 (by simp [Op.operands]; exact ⟨p.1, by simpa using hp⟩))]
end
end Go.Sx
