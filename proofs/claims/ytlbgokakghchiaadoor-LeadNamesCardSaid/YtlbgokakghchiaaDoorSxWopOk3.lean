/- DERIVED, by an AI agent: a part of the engine 'Sx' (a machine over values and numbered objects, proved sound against the model's calls): no condition. No person has read it. -/
import Derived.Test.YtlbgokakghchiaaDoorSxWopOk2
set_option linter.all false
namespace Go.Sx
open Go Go.RowKit

theorem wrap_i64_small {n : Int} (h0 : 0 ≤ n) (h1 : n ≤ 2 ^ 40) : IntKind.i64.wrap n = n := by
  rw [IntKind.wrap_i64]; omega

section
variable {N : Nat} {G : Nat → Option Nat} {ρ : Env} {h h' : AHeap} {w : World} {P : Program} {e : Operand → Option AV} {ev : Operand → Value}

theorem amakeSlice_sound (r : R N G ρ h w) {t : TypeId} {l c v : AV} (hs : amakeSlice P h t l c = some (v, h')) :
    ∃ ρ' w', (Instr.makeSlice t (l.den ρ) (c.den ρ)).run P w = .ok (v.den ρ') w' ∧ R N G ρ' h' w' ∧ Stp ρ h w ρ' h' w' ∧ v.ws (below h'.n) := by
  unfold amakeSlice at hs
  split at hs
  case h_2 => cases hs
  rename_i el k1 l k2 c hd
  split at hs
  case h_2 => cases hs
  rename_i inf zr hi hz
  split at hs
  case isFalse => cases hs
  rename_i hc
  obtain ⟨hzl, h1, h2, h3, h4⟩ := hc
  simp only [Option.some.injEq, Prod.mk.injEq] at hs
  obtain ⟨rfl, rfl⟩ := hs
  obtain ⟨z1, z2⟩ := azero_sound (ρ := ρ) hz w (below h.n)
  have hcs : AV.wsL (below h.n) (azeros zr.cells c.toNat) := azeros_ws (ws_cells zr z2) _
  obtain ⟨q1, q2⟩ := R.newCells (w' := w.alloc (.cells (AV.denL ρ (azeros zr.cells c.toNat) ++ []).toArray el)) r hcs inf.size 0 el [] (by simp) rfl rfl rfl rfl
  refine ⟨_, _, ?_, q1, q2, Nat.lt_succ_self _⟩
  have e1 : IntKind.i64.wrap l = l := wrap_i64_small h1 (by omega)
  have e2 : IntKind.i64.wrap c = c := wrap_i64_small (by omega) h3
  have t1 : (decide (c < 0) || decide ((inf.bytes : Int) * c > 2 ^ 48)) = false := by
    simp only [Bool.or_eq_false_iff, decide_eq_false_iff_not]
    constructor <;> omega
  have t2 : ((decide (c < 0) || decide ((inf.bytes : Int) * c > 2 ^ 48)) || decide (l < 0) || decide (l > c)) = false := by
    rw [t1]; simp only [Bool.false_or, Bool.or_eq_false_iff, decide_eq_false_iff_not]
    constructor <;> omega
  have hinit : ∀ zc : Array Value, (c.toNat * inf.size = 0 ∧ zc = #[]) ∨ zc = (zr.den ρ).cells →
      (Array.range (c.toNat * inf.size)).map (zc[· % zc.size]!) = (AV.denL ρ (azeros zr.cells c.toNat)).toArray := by
    intro zc hzc
    rcases hzc with ⟨h0, rfl⟩ | rfl
    · have : azeros zr.cells c.toNat = [] := by
        apply List.eq_nil_of_length_eq_zero; rw [azeros_length, hzl, h0]
      simp [h0, this, AV.denL]
    · rw [den_cells, ← hzl]; exact zeros_eq ρ zr.cells c.toNat
  simp only [Instr.makeSlice, Sem.run_bind, run_underlying hd, Result.andThen_ok, AV.den, asInt, asIntOf, Sem.run_pure, typeInfo, run_program, hi, e1, e2, t2, Bool.false_eq_true, if_false, run_askRoom, sizeOf]
  by_cases h0 : c.toNat * inf.size = 0
  · rw [if_pos h0]
    simp only [Sem.run_bind, Sem.run_pure, Result.andThen_ok]
    rw [hinit #[] (.inl ⟨h0, rfl⟩)]
    simp only [newRow, Sem.run_bind, run_newObj, Sem.run_pure, Result.andThen_ok, upd_self, sAddr, pAddr, List.append_nil]
    rfl
  · rw [if_neg h0]
    simp only [Sem.run_bind, z1, Sem.run_pure, Result.andThen_ok]
    rw [hinit _ (.inr rfl)]
    simp only [newRow, Sem.run_bind, run_newObj, Sem.run_pure, Result.andThen_ok, upd_self, sAddr, pAddr, List.append_nil]
    rfl

theorem amakeChan_sound (r : R N G ρ h w) {t : TypeId} {s v : AV} (hs : amakeChan P h t s = some (v, h')) :
    ∃ ρ' w', (Instr.makeChan t (s.den ρ)).run P w = .ok (v.den ρ') w' ∧ R N G ρ' h' w' ∧ Stp ρ h w ρ' h' w' ∧ v.ws (below h'.n) := by
  unfold amakeChan at hs
  split at hs
  case h_2 => cases hs
  rename_i dir el k n hd
  split at hs
  case h_2 => cases hs
  rename_i inf hi
  split at hs
  case isFalse => cases hs
  rename_i hc
  simp only [Option.some.injEq, Prod.mk.injEq] at hs
  obtain ⟨rfl, rfl⟩ := hs
  obtain ⟨q1, q2⟩ := r.alloc (w' := w.alloc (.chan n.toNat #[] false 0 0 false)) (o := .chan n.toNat []) 0 rfl rfl rfl rfl trivial rfl ⟨0, 0, by rw [upd_self]; show (w.heap.push _)[w.heap.size]? = _; simp⟩
  refine ⟨_, _, ?_, q1, q2, Nat.lt_succ_self _⟩
  have t1 : ¬ (n < 0 ∨ n > IntKind.i64.max ∨ (inf.bytes : Int) * n > 2 ^ 48 - 112) := by
    have : IntKind.i64.max = 9223372036854775807 := by simp [IntKind.max, IntKind.signed, IntKind.bits]
    omega
  simp only [Instr.makeChan, Sem.run_bind, run_underlying hd, Result.andThen_ok, AV.den, asInt, asIntOf, Sem.run_pure, typeInfo, run_program, hi, t1, if_false, run_newObj, upd_self]
  rfl

theorem awrite_sound (r : R N G ρ h w) (he : Evs e ev ρ (below h.n)) {o : Oper} {v : AV} (hs : awrite P e h o = some (v, h')) :
    ∃ ρ' w' nx, (execOp ev o).run P w = .ok nx w' ∧ (nx = .value (v.den ρ') ∨ (nx = .skip ∧ v = .tuple [])) ∧ R N G ρ' h' w' ∧ Stp ρ h w ρ' h' w' ∧ v.ws (below h'.n) := by
  unfold awrite at hs
  obtain ⟨dst, op, type, pos, after, guard⟩ := o
  split at hs
  · rename_i el hop
    simp only at hop; subst hop
    split at hs
    · rename_i z hz
      simp only [Option.some.injEq, Prod.mk.injEq] at hs
      obtain ⟨rfl, rfl⟩ := hs
      obtain ⟨z1, z2⟩ := azero_sound (ρ := ρ) hz w (below h.n)
      obtain ⟨q1, q2⟩ := R.newCells (w' := w.alloc (.cells (AV.denL ρ z.cells ++ []).toArray el)) r (ws_cells z z2) 1 0 el [] (by simp) rfl rfl rfl rfl
      refine ⟨_, _, _, ?_, .inl rfl, q1, q2, Nat.lt_succ_self _⟩
      simp only [execOp, Instr.alloc, Sem.run_bind, z1, Result.andThen_ok, newVar, newRow, run_newObj, Sem.run_pure, den_cells, AV.den, upd_self, pAddr, List.append_nil]
      rfl
    · cases hs
  · rename_i el x hop
    simp only at hop; subst hop
    split at hs
    · rename_i u hx
      simp only [Option.some.injEq, Prod.mk.injEq] at hs
      obtain ⟨rfl, rfl⟩ := hs
      obtain ⟨q1, q2⟩ := R.newCells (w' := w.alloc (.cells (AV.denL ρ u.cells ++ []).toArray el)) r (ws_cells u (he.wsOf hx)) 1 0 el [] (by simp) rfl rfl rfl rfl
      refine ⟨_, _, _, ?_, .inl rfl, q1, q2, Nat.lt_succ_self _⟩
      simp only [execOp, Instr.box, Sem.run_bind, Result.andThen_ok, newVar, newRow, run_newObj, Sem.run_pure, he.of hx, den_cells, AV.den, upd_self, pAddr, List.append_nil]
      rfl
    · cases hs
  · rename_i t a x hop
    simp only at hop; subst hop
    split at hs
    · rename_i i off u inf ha hx hi
      split at hs
      · rename_i hlen
        cases hput : aput? h i off u.cells with
        | none => simp [hput] at hs
        | some h1 =>
          simp only [hput, Option.map_some, Option.some.injEq, Prod.mk.injEq] at hs
          obtain ⟨rfl, rfl⟩ := hs
          obtain ⟨w', p1, p2, p3⟩ := aput?_sound (P := P) r (ws_cells u (he.wsOf hx)) hput
          refine ⟨ρ, w', .skip, ?_, .inr ⟨rfl, rfl⟩, p2, p3, trivial⟩
          have e1 := he.of ha
          simp only [AV.den] at e1
          have e2 : (u.den ρ).cells.size = inf.size := by rw [den_cells, ← hlen]; simp [denL_map]
          simp only [execOp, Instr.storeAt, e1, Instr.sureAddr, storeVar, Sem.run_bind, Sem.run_pure, Result.andThen_ok, run_sizeOf hi, he.of hx, e2, ne_eq, not_true, if_false]
          rw [den_cells]
          simp only [List.toList_toArray, p1, Result.andThen_ok]
      · cases hs
    · cases hs
  · rename_i t len parts hop
    simp only at hop; subst hop
    split at hs
    · rename_i ps hps
      obtain ⟨g1, g2⟩ := aparts_sound he _ _ hps
      obtain ⟨ρ', w', h1, h2, h3, h4⟩ := abuildSlice_sound r g2 hs
      refine ⟨ρ', w', _, ?_, .inl rfl, h2, h3, h4⟩
      have : (parts.map fun (x : Nat × Operand) => (x.1, ev x.2)) = (ps.map fun p => (p.1, p.2.den ρ)).toArray := by
        rw [← g1]; apply Array.ext'; simp
      simp only [execOp, this, Sem.run_bind, h1, Result.andThen_ok, Sem.run_pure]
    · cases hs
  · rename_i t hop
    simp only at hop; subst hop
    simp only [Option.some.injEq, Prod.mk.injEq] at hs
    obtain ⟨rfl, rfl⟩ := hs
    obtain ⟨q1, q2⟩ := r.alloc (w' := w.alloc (.map #[] 0)) (o := .map []) 0 rfl rfl rfl rfl (by intro p hp; cases hp) rfl ⟨#[], 0, by rw [upd_self]; show (w.heap.push _)[w.heap.size]? = _; simp, rfl⟩
    refine ⟨_, _, _, ?_, .inl rfl, q1, q2, Nat.lt_succ_self _⟩
    simp only [execOp, Instr.makeMap, Option.map_none, Sem.run_bind, run_newObj, Sem.run_pure, Result.andThen_ok, AV.den, upd_self]
    rfl
  · rename_i t s hop
    simp only at hop; subst hop
    split at hs
    · rename_i u hu
      obtain ⟨ρ', w', h1, h2, h3, h4⟩ := amakeChan_sound r hs
      refine ⟨ρ', w', _, ?_, .inl rfl, h2, h3, h4⟩
      simp only [execOp, he.of hu, Sem.run_bind, h1, Result.andThen_ok, Sem.run_pure]
    · cases hs
  · rename_i t l c hop
    simp only at hop; subst hop
    split at hs
    · rename_i ul uc hl hc
      obtain ⟨ρ', w', h1, h2, h3, h4⟩ := amakeSlice_sound r hs
      refine ⟨ρ', w', _, ?_, .inl rfl, h2, h3, h4⟩
      simp only [execOp, he.of hl, he.of hc, Sem.run_bind, h1, Result.andThen_ok, Sem.run_pure]
    · cases hs
  · rename_i t m k x hop
    simp only at hop; subst hop
    split at hs
    · rename_i um uk ux hm hk hx
      cases hput : amapUpdate P h t um uk ux with
      | none => simp [hput] at hs
      | some h1 =>
        simp only [hput, Option.map_some, Option.some.injEq, Prod.mk.injEq] at hs
        obtain ⟨rfl, rfl⟩ := hs
        obtain ⟨w', p1, p2, p3⟩ := amapUpdate_sound r (he.wsOf hk) (he.wsOf hx) hput
        refine ⟨ρ, w', .skip, ?_, .inr ⟨rfl, rfl⟩, p2, p3, trivial⟩
        simp only [execOp, he.of hm, he.of hk, he.of hx, Sem.run_bind, p1, Result.andThen_ok, Sem.run_pure]
    · cases hs
  · rename_i args argTypes hop
    simp only at hop; subst hop
    split at hs
    · rename_i sT xT s x hts hargs
      obtain ⟨g1, g2⟩ := aops_sound he _ _ hargs
      obtain ⟨ρ', w', h1, h2, h3, h4⟩ := aappend_sound (ty := type) r hts g2.1 g2.2.1 hs
      refine ⟨ρ', w', _, ?_, .inl rfl, h2, h3, h4⟩
      have e1 : args.map ev = #[s.den ρ, x.den ρ] := by
        apply Array.ext'; simpa [AV.denL] using g1
      simp only [execOp, resolve, Sem.run_bind, Sem.run_pure, Result.andThen_ok, invoke, builtin, e1, h1]
    · cases hs
  · rename_i args argTypes hop
    simp only at hop; subst hop
    split at hs
    · rename_i dT xT d x hts hargs
      obtain ⟨g1, g2⟩ := aops_sound he _ _ hargs
      have ht0 : argTypes[0]? = some dT := by rw [← Array.getElem?_toList, hts]; rfl
      obtain ⟨w', h1, h2, h3, h4⟩ := acopy_sound (ty := type) r ht0 g2.1 g2.2.1 hs
      refine ⟨ρ, w', _, ?_, .inl rfl, h2, h3, h4⟩
      have e1 : args.map ev = #[d.den ρ, x.den ρ] := by
        apply Array.ext'; simpa [AV.denL] using g1
      simp only [execOp, resolve, Sem.run_bind, Sem.run_pure, Result.andThen_ok, invoke, builtin, e1, h1]
    · cases hs
  · cases hs
end
end Go.Sx
