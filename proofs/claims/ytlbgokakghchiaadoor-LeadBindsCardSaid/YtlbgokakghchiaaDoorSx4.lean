/- YtlbgokakghchiaaDoorSx4: texts of one's own, merged: SxAl, SxCan, SxCan2, SxCan3, SxCan4, SxCan5. -/
import Derived.Test.YtlbgokakghchiaaDoorSx3
set_option linter.all false
namespace Go.Sx
open Go Go.RowKit

def isAl : Op → Bool
  | .alloc _ | .box _ _ | .buildSlice _ _ _ => true
  | _ => false

section
variable {N : Nat} {G : Nat → Option Nat} {ρ ρ' : Env} {h h' : AHeap} {w w' : World} {P : Program} {e e' : Operand → Option AV} {ev : Operand → Value} {S : Nat → Prop}

theorem azero_ws {t : TypeId} {v : AV} (hz : azero P t = some v) (S : Nat → Prop) : v.ws S := by
  unfold azero at hz
  split at hz
  · split at hz
    · exact (den_ofV ρ0 _ v hz).2 S
    · cases hz
  · cases hz

/-- the operations that only make a new block: in whatever world -/
theorem al_sound (he : Evs e ev ρ S) {o : Oper} {v : AV} (ha : isAl o.op = true) (hs : awrite P e h o = some (v, h')) :
    ∃ cs esz, h' = h.alloc (.cells cs false esz) ∧ AV.wsL S cs ∧ v.ws (fun i => i = h.n) ∧
      ∀ w, ∃ E, (execOp ev o).run P w = .ok (.value (v.den (upd ρ h.n ⟨w.heap.size, 0, 0, none⟩))) (w.alloc (.cells (AV.denL ρ cs).toArray E)) := by
  unfold awrite at hs
  obtain ⟨dst, op, type, pos, after, guard⟩ := o
  split at hs <;> rename_i hop <;> simp only at hop <;> (try (subst hop; simp [isAl] at ha; done))
  · rename_i el
    subst hop
    split at hs
    · rename_i z hz
      simp only [Option.some.injEq, Prod.mk.injEq] at hs
      obtain ⟨rfl, rfl⟩ := hs
      refine ⟨z.cells, 1, rfl, ws_cells z (azero_ws hz S), rfl, fun w => ⟨el, ?_⟩⟩
      obtain ⟨z1, z2⟩ := azero_sound (ρ := ρ) hz w S
      simp only [execOp, Instr.alloc, Sem.run_bind, z1, Result.andThen_ok, newVar, newRow, run_newObj, Sem.run_pure, den_cells, AV.den, upd_self, pAddr]
      rfl
    · cases hs
  · rename_i el x
    subst hop
    split at hs
    · rename_i u hx
      simp only [Option.some.injEq, Prod.mk.injEq] at hs
      obtain ⟨rfl, rfl⟩ := hs
      refine ⟨u.cells, 1, rfl, ws_cells u (he x u hx).2, rfl, fun w => ⟨el, ?_⟩⟩
      simp only [execOp, Instr.box, Sem.run_bind, Result.andThen_ok, newVar, newRow, run_newObj, Sem.run_pure, (he x u hx).1, den_cells, AV.den, upd_self, pAddr]
      rfl
    · cases hs
  · rename_i t len parts
    subst hop
    split at hs
    · rename_i ps hps
      obtain ⟨g1, g2⟩ := aparts_sound he _ _ hps
      unfold abuildSlice at hs
      split at hs
      case h_2 => cases hs
      rename_i el hd
      split at hs
      case h_2 => cases hs
      rename_i inf zr hi hz
      split at hs
      case isFalse => cases hs
      rename_i hc
      obtain ⟨hzl, hsz⟩ := hc
      split at hs
      case h_2 => cases hs
      rename_i cs hf
      simp only [Option.some.injEq, Prod.mk.injEq] at hs
      obtain ⟨rfl, rfl⟩ := hs
      obtain ⟨f1, f2⟩ := afill_sound (ρ := ρ) _ ps _ cs hf (azeros_ws (ws_cells zr (azero_ws hz S)) len) g2
      refine ⟨cs, inf.size, rfl, f2, rfl, fun w => ⟨el, ?_⟩⟩
      obtain ⟨z1, z2⟩ := azero_sound (ρ := ρ) hz w S
      have hinit : ∀ zc : Array Value, (len * inf.size = 0 ∧ zc = #[]) ∨ zc = (zr.den ρ).cells →
          (Array.range (len * inf.size)).map (zc[· % zc.size]!) = (AV.denL ρ (azeros zr.cells len)).toArray := by
        intro zc hzc
        rcases hzc with ⟨h0, rfl⟩ | rfl
        · have : azeros zr.cells len = [] := by
            apply List.eq_nil_of_length_eq_zero; rw [azeros_length, hzl, h0]
          simp [h0, this, AV.denL]
        · rw [den_cells, ← hzl]; exact zeros_eq ρ zr.cells len
      have hgt : ¬ (len * inf.size > 2 ^ 24) := by omega
      have f1' : Instr.fill (fun i => some (i * inf.size, inf.size)) (AV.denL ρ (azeros zr.cells len)).toArray (ps.map fun p => (p.1, p.2.den ρ)) = some (AV.denL ρ cs).toArray := f1
      have hp : (parts.map fun (x : Nat × Operand) => (x.1, ev x.2)) = (ps.map fun p => (p.1, p.2.den ρ)).toArray := by
        rw [← g1]; apply Array.ext'; simp
      simp only [execOp, hp, Instr.buildSlice, Sem.run_bind, run_underlying hd, Result.andThen_ok, run_sizeOf hi, hgt, if_false, Sem.run_pure]
      by_cases h0 : len * inf.size = 0
      · rw [if_pos h0]
        simp only [Sem.run_bind, Sem.run_pure, Result.andThen_ok]
        rw [hinit #[] (.inl ⟨h0, rfl⟩)]
        simp only [List.toList_toArray, f1', newRow, Sem.run_bind, run_newObj, Sem.run_pure, Result.andThen_ok, AV.den, upd_self, sAddr, pAddr, Bool.false_eq_true, if_false]
        rfl
      · rw [if_neg h0]
        simp only [Sem.run_bind, z1, Sem.run_pure, Result.andThen_ok]
        rw [hinit _ (.inr rfl)]
        simp only [List.toList_toArray, f1', newRow, Sem.run_bind, run_newObj, Sem.run_pure, Result.andThen_ok, AV.den, upd_self, sAddr, pAddr, Bool.false_eq_true, if_false]
        rfl
    · cases hs
  · cases hs

/-! ### what an operation does hangs on its operands alone -/
theorem abounds_congr {len cap : Nat} {lo hi mx : Option Operand} (h1 : ∀ x, lo = some x → e x = e' x) (h2 : ∀ x, hi = some x → e x = e' x) (h3 : ∀ x, mx = some x → e x = e' x) :
    abounds e len cap lo hi mx = abounds e' len cap lo hi mx := by
  unfold abounds
  cases lo <;> cases hi <;> cases mx <;> simp_all

theorem aparts_congr : ∀ (l : List (Nat × Operand)), (∀ p, p ∈ l → e p.2 = e' p.2) → aparts e l = aparts e' l
  | [], _ => rfl
  | (i, x) :: r, hh => by
    have h0 := hh (i, x) (List.mem_cons_self ..)
    simp only at h0
    simp only [aparts, h0, aparts_congr r (fun p hp => hh p (List.mem_cons_of_mem _ hp))]

theorem aops_congr : ∀ (l : List Operand), (∀ p, p ∈ l → e p = e' p) → aops e l = aops e' l
  | [], _ => rfl
  | x :: r, hh => by
    simp only [aops, hh x (List.mem_cons_self ..), aops_congr r (fun p hp => hh p (List.mem_cons_of_mem _ hp))]

theorem all_congr' {α : Type} (f g : α → Bool) : ∀ l : List α, (∀ x, x ∈ l → f x = g x) → l.all f = l.all g
  | [], _ => rfl
  | x :: r, hh => by simp only [List.all_cons, hh x (List.mem_cons_self ..), all_congr' f g r (fun p hp => hh p (List.mem_cons_of_mem _ hp))]

theorem apure_congr {o : Oper} (hh : ∀ x, x ∈ o.op.operands → e x = e' x) : apure P e o = apure P e' o := by
  unfold apure
  have h1 : (o.op.operands.toList.all fun x => oclosed (e x)) = o.op.operands.toList.all fun x => oclosed (e' x) :=
    all_congr' _ _ _ fun x hx => by rw [hh x (by simpa using hx)]
  rw [h1]
  by_cases hsel : isSelect o.op = true
  · simp [hsel]
  · have h2 : execOp (fun x => oden (e x)) o = execOp (fun x => oden (e' x)) o :=
      execOp_congr o (fun cs b hq => by rw [hq] at hsel; exact hsel rfl) (fun x hx => by rw [hh x hx])
    rw [h2]

theorem aread_congr {o : Oper} (hh : ∀ x, x ∈ o.op.operands → e x = e' x) : aread P e h o = aread P e' h o := by
  have hp := apure_congr (P := P) hh
  obtain ⟨dst, op, type, pos, after, guard⟩ := o
  unfold aread
  cases op with
  | call c =>
    simp only at hh ⊢
    obtain ⟨callee, args, argTypes⟩ := c
    cases callee with
    | builtin b =>
      cases b <;> simp only <;> first | exact hp | skip
      have : (args[0]?).bind e = (args[0]?).bind e' := by
        cases h0 : args[0]? with
        | none => rfl
        | some x =>
          refine hh x ?_
          simp only [Op.operands, Call.operands, List.append_toArray, Array.empty_append]
          exact Array.mem_of_getElem? h0
      rw [this, hp]
    | value f => exact hp
    | invoke r m => exact hp
  | makeFunc fn first captured =>
    cases fn <;> simp only <;> first | exact hp | skip
    rw [aops_congr (e := e) (e' := e') first.toList (fun x hx => hh x (by simp [Op.operands]; exact .inl (by simpa using hx))), aops_congr (e := e) (e' := e') captured.toList (fun x hx => hh x (by simp [Op.operands]; exact .inr (by simpa using hx)))]
  | build t parts =>
    simp only
    rw [aparts_congr (e := e) (e' := e') parts.toList (fun p hp => hh p.2 (by simp [Op.operands]; exact ⟨p.1, by simpa using hp⟩))]
  | slice t x lo hi mx =>
    simp only
    have hx : e x = e' x := hh x (by simp [Op.operands])
    have hb : ∀ len cap, abounds e len cap lo hi mx = abounds e' len cap lo hi mx := fun len cap => abounds_congr
      (fun y hy => hh y (by simp [Op.operands, hy])) (fun y hy => hh y (by simp [Op.operands, hy])) (fun y hy => hh y (by simp [Op.operands, hy]))
    have hsl : ∀ v, asliceAt P e t v lo hi mx = asliceAt P e' t v lo hi mx := fun v => by
      unfold asliceAt; simp only [hb]
    rw [hx, hp]
    simp only [hsl]
  | _ =>
    simp only
    first
      | exact hp
      | (rw [hh _ (by simp [Op.operands])]; done)
      | (rw [hh _ (by simp [Op.operands]), hp]; done)
      | (simp only [Op.operands] at hh; simp_all; done)

theorem awrite_al_congr {o : Oper} (ha : isAl o.op = true) (hh : ∀ x, x ∈ o.op.operands → e x = e' x) : awrite P e h o = awrite P e' h o := by
  obtain ⟨dst, op, type, pos, after, guard⟩ := o
  unfold awrite
  cases op <;> first | (simp [isAl] at ha; done) | skip
  · simp only
  · rename_i el x
    simp only [hh x (by simp [Op.operands])]
  · rename_i t len parts
    simp only
    rw [aparts_congr (e := e) (e' := e') parts.toList (fun p hp => hh p.2 (by simp [Op.operands]; exact ⟨p.1, by simpa using hp⟩))]
end
end Go.Sx
namespace Go.Sx
open Go Go.RowKit

inductive Cls where
  | rd | eff | al
  deriving DecidableEq, Inhabited

/-- one run of a region's operations in an order of ours -/
structure Can where
  ops : Array Oper
  pi : Nat → Nat
  bef : Nat → Nat → Bool
  cls : Nat → Cls
  v : Nat → AV
  t : Nat → List AV
  h : Nat → AHeap

namespace Can
def n (C : Can) : Nat := C.ops.size
def op (C : Can) (k : Nat) : Oper := C.ops.getD (C.pi k) default
def dst (C : Can) (k : Nat) : Option Tmp := (C.op k).dst
def looks (C : Can) (k : Nat) : List Tmp := (C.op k).looksAt C.ops

/-- the slots where just the places of L were carried out -/
def T (C : Can) (L : Nat → Bool) : Nat → List AV
  | 0 => C.t 0
  | k + 1 => if L k then aput (C.T L k) (C.dst k) (C.v k) else C.T L k

structure Ok (C : Can) (P : Program) (G : Nat → Option Nat) (call : CallF) : Prop where
  piLt : ∀ k, k < C.n → C.pi k < C.n
  piInj : ∀ k m, k < C.n → m < C.n → C.pi k = C.pi m → k = m
  piSurj : ∀ i, i < C.n → ∃ k, k < C.n ∧ C.pi k = i
  befLt : ∀ k m, m < C.n → C.bef k m = true → k < m
  edge : ∀ m, m < C.n → ∀ e, e ∈ (C.op m).after → Region.binds .any e = true → ∃ k, k < C.n ∧ C.pi k = e.on ∧ C.bef k m = true
  just : ∀ k m, m < C.n → C.bef k m = true → ∃ e, e ∈ (C.op m).after ∧ Region.binds .any e = true ∧ ∃ k', k' < C.n ∧ C.pi k' = e.on ∧ (k' = k ∨ C.bef k k' = true)
  names : ∀ k m, k < m → m < C.n → ((∃ d, C.dst k = some d ∧ (d ∈ C.looks m ∨ C.dst m = some d)) ∨ (∃ d, C.dst m = some d ∧ d ∈ C.looks k)) → C.bef k m = true
  effs : ∀ m, m < C.n → C.cls m = .eff → ∀ k, k < m → C.bef k m = true
  nosel : ∀ m, m < C.n → ∀ cs b, (C.op m).op ≠ .select cs b
  tt : ∀ k, k < C.n → C.t (k + 1) = aput (C.t k) (C.dst k) (C.v k)
  step : ∀ k, k < C.n →
    (Region.wanted (C.op k) (ayield C.ops (C.t k)) = false ∧ C.v k = .tuple [] ∧ C.h (k + 1) = C.h k ∧ C.cls k = .rd) ∨
    (Region.wanted (C.op k) (ayield C.ops (C.t k)) = true ∧
      ((C.cls k = .rd ∧ C.h (k + 1) = C.h k ∧ ∀ p, p ≤ k → (p = 0 ∨ C.cls (p - 1) = .eff) → (∀ m, m < C.n → C.cls m = .eff → C.bef m k = true → m < p) → aread P (aev G (C.t k)) (C.h p) (C.op k) = some (C.v k)) ∨
       (C.cls k = .eff ∧ aeff P call (aev G (C.t k)) (C.h k) (C.op k) = some (C.v k, C.h (k + 1))) ∨
       (C.cls k = .al ∧ isAl (C.op k).op = true ∧ awrite P (aev G (C.t k)) (C.h k) (C.op k) = some (C.v k, C.h (k + 1)))))

section
variable {C : Can}

theorem T_congr (x : Nat) {L L' : Nat → Bool} : ∀ m, (∀ k, k < m → C.dst k = some x → L k = L' k) → (C.T L m)[x]? = (C.T L' m)[x]? ∧ (C.T L m).length = (C.T L' m).length
  | 0, _ => ⟨rfl, rfl⟩
  | m + 1, hh => by
    obtain ⟨ih1, ih2⟩ := T_congr x m (fun k hk hd => hh k (by omega) hd)
    simp only [T]
    have hput : ∀ l : List AV, (aput l (C.dst m) (C.v m)).length = l.length := fun l => by unfold aput; cases C.dst m <;> simp
    by_cases hd : C.dst m = some x
    · have hq := hh m (by omega) hd
      rw [hq]
      cases L' m
      · exact ⟨ih1, ih2⟩
      · simp only [if_true]
        refine ⟨?_, by rw [hput, hput]; exact ih2⟩
        simp only [hd, aput, List.getElem?_set, ih2, ih1]
    · have hne : ∀ l : List AV, (aput l (C.dst m) (C.v m))[x]? = l[x]? := fun l => by
        unfold aput
        cases hq : C.dst m with
        | none => rfl
        | some d =>
          have : d ≠ x := fun e => hd (by rw [hq, e])
          simp only [List.getElem?_set_ne this]
      cases L m <;> cases L' m <;> simp only [Bool.false_eq_true, if_false, if_true, hne, hput] <;> exact ⟨ih1, ih2⟩

theorem T_lt {m : Nat} : ∀ n, m ≤ n → C.T (fun k => decide (k < m)) n = C.T (fun _ => true) m
  | 0, hm => by
    have : m = 0 := by omega
    subst this; rfl
  | n + 1, hm => by
    by_cases h0 : m ≤ n
    · have ih := T_lt n h0
      simp only [T]
      rw [if_neg (by simp; omega)]
      exact ih
    · have hmn : m = n + 1 := by omega
      subst hmn
      have key : ∀ j, j ≤ n + 1 → C.T (fun k => decide (k < n + 1)) j = C.T (fun _ => true) j := by
        intro j
        induction j with
        | zero => intro _; rfl
        | succ j ih =>
          intro hj
          simp only [T]
          rw [ih (by omega), if_pos (by simp; omega)]; simp
      exact key _ (Nat.le_refl _)

theorem T_all {P : Program} {G : Nat → Option Nat} {call : CallF} (ok : C.Ok P G call) : ∀ m, m ≤ C.n → C.T (fun _ => true) m = C.t m
  | 0, _ => rfl
  | m + 1, hm => by
    simp only [T, if_true]
    rw [T_all ok m (by omega), ok.tt m (by omega)]

theorem aput_comm (l : List AV) {d e : Option Tmp} (v u : AV) (hne : ∀ x, d = some x → e ≠ some x) : aput (aput l d v) e u = aput (aput l e u) d v := by
  cases d with
  | none => rfl
  | some d =>
    cases e with
    | none => rfl
    | some e =>
      have : d ≠ e := fun q => hne d rfl (by rw [q])
      simp only [aput]
      exact List.set_comm _ _ this

theorem T_put {L L' : Nat → Bool} {m : Nat} (h1 : L m = false) (h2 : L' m = true) (h3 : ∀ k, k ≠ m → L' k = L k) (h4 : ∀ k, m < k → L k = true → ∀ x, C.dst m = some x → C.dst k ≠ some x) :
    ∀ n, m < n → C.T L' n = aput (C.T L n) (C.dst m) (C.v m)
  | 0, hm => by omega
  | n + 1, hm => by
    simp only [T]
    by_cases e : n = m
    · subst e
      have key : ∀ j, j ≤ n → C.T L' j = C.T L j := by
        intro j
        induction j with
        | zero => intro _; rfl
        | succ j ih =>
          intro hj
          simp only [T]
          rw [ih (by omega), h3 j (by omega)]
      rw [key n (Nat.le_refl _), if_pos h2, if_neg (by simp [h1])]
    · have ih := T_put h1 h2 h3 h4 n (by omega)
      rw [h3 n e, ih]
      by_cases hL : L n = true
      · rw [if_pos hL, if_pos hL]
        exact aput_comm _ _ _ (fun x hx => h4 n (by omega) hL x hx)
      · rw [if_neg hL, if_neg hL]

theorem T_ws {S : Nat → Prop} {L : Nat → Bool} (h0 : AV.wsL S (C.t 0)) : ∀ n, (∀ k, k < n → L k = true → (C.v k).ws S) → AV.wsL S (C.T L n)
  | 0, _ => h0
  | n + 1, hh => by
    have ih := T_ws h0 n (fun k hk hL => hh k (by omega) hL)
    simp only [T]
    split
    · rename_i hL
      unfold aput
      cases C.dst n with
      | none => exact ih
      | some d =>
        rw [wsL_iff]
        intro u hu
        rcases List.mem_or_eq_of_mem_set hu with hu | rfl
        · exact (wsL_iff _ _).1 ih u hu
        · exact hh n (by omega) hL
    · exact ih
end
end Can

section
variable {N : Nat} {G : Nat → Option Nat} {ρ ρ' : Env} {h h' : AHeap} {w w' : World} {P : Program}

theorem R.env (r : R N G ρ h w) (he : ∀ i, i < h.n → ρ' i = ρ i) : R N G ρ' h w where
  lt := r.lt
  ws := r.ws
  fits := fun i o hi => Fits.keep (n := below h.n) he (r.lt i o hi) (r.ws i o hi) (fun ob hob => hob) (r.fits i o hi)
  low := fun i o hi h1 => by rw [he i (r.lt i o hi)]; exact r.low i o hi h1
  high := fun i o hi h1 => by rw [he i (r.lt i o hi)]; exact r.high i o hi h1
  apart := fun i j o p hi hj hne h1 h2 => by rw [he i (r.lt i o hi), he j (r.lt j p hj)]; exact r.apart i j o p hi hj hne h1 h2
  base := r.base
  glob := fun g i hg => by
    obtain ⟨h1, h2, h3⟩ := r.glob g i hg
    rw [he i h1]; exact ⟨h1, h2, h3⟩

theorem Owned.env (r : R N G ρ h w) (he : ∀ i, i < h.n → ρ' i = ρ i) {b : Nat} (ho : Owned ρ' h b) : Owned ρ h b := by
  obtain ⟨i, o, hi, h1, h2⟩ := ho
  exact ⟨i, o, hi, h1, by rw [← he i (r.lt i o hi)]; exact h2⟩
end
end Go.Sx
namespace Go.Sx
open Go Go.RowKit
namespace Can

/-- the ids that may be named now -/
def Sp (C : Can) (L : Nat → Bool) (p : Nat) : Nat → Prop :=
  fun x => x < (C.h p).n ∨ ∃ k, p ≤ k ∧ k < C.n ∧ C.cls k = .al ∧ L k = true ∧ x = (C.h k).n

structure Inv (C : Can) (N : Nat) (G : Nat → Option Nat) (ρ0 : Env) (w0 : World) (L : Nat → Bool) (a : Act) (w : World) (p : Nat) (ρ : Env) : Prop where
  pLe : p ≤ C.n
  w0N : N ≤ w0.heap.size
  start : p = 0 ∨ C.cls (p - 1) = .eff
  eff : ∀ k, k < C.n → C.cls k = .eff → (L k = true ↔ k < p)
  pre : ∀ k, k < p → L k = true
  closed : ∀ k m, m < C.n → C.bef k m = true → L m = true → L k = true
  r : R N G ρ (C.h p) w
  stp : Stp ρ0 (C.h 0) w0 ρ (C.h p) w
  tmps : a.tmps = (AV.denL ρ (C.T L C.n)).toArray
  defers : a.defers = []
  vws : ∀ k, k < C.n → L k = true → (C.v k).ws (C.Sp L p) ∧ (C.v k).ws (below (C.h (k + 1)).n)
  pend : ∀ k, p ≤ k → k < C.n → C.cls k = .al → L k = true → ∃ cs esz E, C.h (k + 1) = (C.h k).alloc (.cells cs false esz) ∧
    w.heap[(ρ (C.h k).n).b]? = some (.cells (AV.denL ρ cs).toArray E) ∧ (ρ (C.h k).n).o = 0 ∧ ((ρ (C.h k).n).sl = 0 ∧ (ρ (C.h k).n).sp = none) ∧ w0.heap.size ≤ (ρ (C.h k).n).b ∧
    ¬ Owned ρ (C.h p) (ρ (C.h k).n).b ∧ AV.wsL (C.Sp L p) cs ∧ AV.wsL (below (C.h k).n) cs
  pdist : ∀ k m, p ≤ k → k < C.n → C.cls k = .al → L k = true → p ≤ m → m < C.n → C.cls m = .al → L m = true → k ≠ m → (ρ (C.h k).n).b ≠ (ρ (C.h m).n).b
  out : ∀ k, C.n ≤ k → L k = false
  t0ws : AV.wsL (below (C.h 0).n) (C.t 0)

section
variable {C : Can} {N : Nat} {G : Nat → Option Nat} {P : Program} {call : CallF} {ρ0 ρ : Env} {w0 w : World} {L : Nat → Bool} {a : Act} {p : Nat}

theorem mono1 (hc : CallOk P N G call) (ok : C.Ok P G call) {k : Nat} (hk : k < C.n) : (C.h k).n ≤ (C.h (k + 1)).n := by
  rcases ok.step k hk with ⟨_, _, h3, _⟩ | ⟨_, ⟨_, h3, _⟩ | ⟨_, h3⟩ | ⟨_, _, h3⟩⟩
  · rw [h3]; exact Nat.le_refl _
  · rw [h3]; exact Nat.le_refl _
  · exact aeff_mono hc h3
  · exact awrite_mono h3

theorem mono (hc : CallOk P N G call) (ok : C.Ok P G call) {k : Nat} : ∀ {m : Nat}, k ≤ m → m ≤ C.n → (C.h k).n ≤ (C.h m).n
  | 0, h1, _ => by have : k = 0 := by omega
                   subst this; exact Nat.le_refl _
  | m + 1, h1, h2 => by
    by_cases e : k = m + 1
    · subst e; exact Nat.le_refl _
    · exact Nat.le_trans (mono hc ok (by omega) (by omega)) (mono1 hc ok (by omega))

theorem al_n {e : Operand → Option AV} {h h' : AHeap} {o : Oper} {v : AV} (ha : isAl o.op = true) (hs : awrite P e h o = some (v, h')) : h'.n = h.n + 1 := by
  unfold awrite at hs
  obtain ⟨dst, op, type, pos, after, guard⟩ := o
  cases op <;> simp only [isAl, Bool.false_eq_true] at ha <;> simp only at hs
  · split at hs
    · simp only [Option.some.injEq, Prod.mk.injEq] at hs; rw [← hs.2]; rfl
    · cases hs
  · split at hs
    · simp only [Option.some.injEq, Prod.mk.injEq] at hs; rw [← hs.2]; rfl
    · cases hs
  · split at hs
    · unfold abuildSlice at hs
      repeat' split at hs
      all_goals first | (cases hs; done) | (simp only [Option.some.injEq, Prod.mk.injEq] at hs; rw [← hs.2]; rfl)
    · cases hs

theorem al_lt (hc : CallOk P N G call) (ok : C.Ok P G call) {k : Nat} (hk : k < C.n) (ha : C.cls k = .al) : (C.h k).n < (C.h (k + 1)).n := by
  rcases ok.step k hk with ⟨_, _, _, h4⟩ | ⟨_, ⟨h4, _⟩ | ⟨h4, _⟩ | ⟨_, h2, h3⟩⟩
  · rw [ha] at h4; cases h4
  · rw [ha] at h4; cases h4
  · rw [ha] at h4; cases h4
  · rw [al_n h2 h3]; exact Nat.lt_succ_self _

theorem Inv.Tws (I : Inv C N G ρ0 w0 L a w p ρ) : AV.wsL (C.Sp L p) (C.T L C.n) :=
  T_ws (wsL_mono (fun _ hx => .inl (Nat.lt_of_lt_of_le hx I.stp.n)) _ I.t0ws) C.n (fun k hk hL => (I.vws k hk hL).1)

/-- what came up is absorbed, in our order -/
theorem absorb (hc : CallOk P N G call) (ok : C.Ok P G call) (I : Inv C N G ρ0 w0 L a w p ρ) : ∀ q, p ≤ q → q ≤ C.n → (∀ k, p ≤ k → k < q → L k = true) →
    R N G ρ (C.h q) w ∧ Stp ρ0 (C.h 0) w0 ρ (C.h q) w ∧ (∀ b, Owned ρ (C.h q) b → Owned ρ (C.h p) b ∨ ∃ k, p ≤ k ∧ k < q ∧ C.cls k = .al ∧ b = (ρ (C.h k).n).b)
  | 0, h1, _, _ => by
    have : p = 0 := by omega
    subst this
    exact ⟨I.r, I.stp, fun b hb => .inl hb⟩
  | q + 1, h1, h2, h3 => by
    by_cases e : p = q + 1
    · subst e
      exact ⟨I.r, I.stp, fun b hb => .inl hb⟩
    · obtain ⟨ih1, ih2, ih3⟩ := absorb hc ok I q (by omega) (by omega) (fun k hk1 hk2 => h3 k hk1 (by omega))
      have hL := h3 q (by omega) (by omega)
      have keep : C.h (q + 1) = C.h q → _ := fun hq => (⟨by rw [hq]; exact ih1, by rw [hq]; exact ih2, fun b hb => by
        rw [hq] at hb
        rcases ih3 b hb with h | ⟨k, k1, k2, k3⟩
        · exact .inl h
        · exact .inr ⟨k, k1, by omega, k3⟩⟩ : R N G ρ (C.h (q + 1)) w ∧ Stp ρ0 (C.h 0) w0 ρ (C.h (q + 1)) w ∧ (∀ b, Owned ρ (C.h (q + 1)) b → Owned ρ (C.h p) b ∨ ∃ k, p ≤ k ∧ k < q + 1 ∧ C.cls k = .al ∧ b = (ρ (C.h k).n).b))
      rcases ok.step q (by omega) with ⟨_, _, hq, _⟩ | ⟨_, ⟨_, hq, _⟩ | ⟨hcl, _⟩ | ⟨hcl, _, _⟩⟩
      · exact keep hq
      · exact keep hq
      · have := (I.eff q (by omega) hcl).1 hL; omega
      · obtain ⟨cs, esz, E, g1, g2, g3, g4, g5, g6, g7, g8⟩ := I.pend q (by omega) (by omega) hcl hL
        have hfree : ¬ Owned ρ (C.h q) (ρ (C.h q).n).b := fun ho => by
          rcases ih3 _ ho with h | ⟨k, k1, k2, k3, k4⟩
          · exact g6 h
          · exact I.pdist q k (by omega) (by omega) hcl hL k1 (by omega) k3 (h3 k k1 (by omega)) (by omega) k4
        have hu : upd ρ (C.h q).n (ρ (C.h q).n) = ρ := by
          funext j; unfold upd; split
          · rename_i ej; rw [ej]
          · rfl
        have hN : N ≤ (ρ (C.h q).n).b := Nat.le_trans I.w0N g5
        have hfit : Fits (upd ρ (C.h q).n (ρ (C.h q).n)) w (C.h q).n (.cells cs false esz) := by
          rw [hu]
          refine ⟨_, E, (0, 0), g2, ?_, ?_, ?_, g4.2⟩
          · intro j v hj
            rw [g3, Nat.zero_add]
            simpa using denL_get (ρ := ρ) hj
          · rw [g3, g4.1]; simp [denL_map]
          · intro x _ hx; omega
        have had := ih1.adopt (w' := w) (o := .cells cs false esz) (ρ (C.h q).n) hN hfree (fun _ _ => rfl) rfl g8 rfl hfit
        rw [hu, ← g1] at had
        refine ⟨had, ?_, ?_⟩
        · refine ⟨ih2.ext, Nat.le_trans ih2.n (mono1 hc ok (by omega)), ih2.os, ih2.tape, ih2.output, ih2.size, ?_, ih2.keep⟩
          rintro b ⟨i, o, hi, ho, hb⟩
          rw [g1] at hi
          by_cases ei : i = (C.h q).n
          · subst ei; rw [← hb]; exact .inr g5
          · rw [AHeap.get_alloc_ne _ _ ei] at hi
            exact ih2.own b ⟨i, o, hi, ho, hb⟩
        · rintro b ⟨i, o, hi, ho, hb⟩
          rw [g1] at hi
          by_cases ei : i = (C.h q).n
          · subst ei; exact .inr ⟨q, by omega, by omega, hcl, hb.symm⟩
          · rw [AHeap.get_alloc_ne _ _ ei] at hi
            rcases ih3 b ⟨i, o, hi, ho, hb⟩ with h | ⟨k, k1, k2, k3⟩
            · exact .inl h
            · exact .inr ⟨k, k1, by omega, k3⟩
end
end Can
end Go.Sx
namespace Go.Sx
open Go Go.RowKit
namespace Can
section
variable {C : Can} {N : Nat} {G : Nat → Option Nat} {P : Program} {call : CallF} {ρ0 ρ : Env} {w0 w : World} {L L' : Nat → Bool} {a : Act} {p k : Nat}

theorem Sp_mono (hL : ∀ j, L j = true → L' j = true) : ∀ x, C.Sp L p x → C.Sp L' p x := by
  rintro x (h | ⟨k, h1, h2, h3, h4, h5⟩)
  · exact .inl h
  · exact .inr ⟨k, h1, h2, h3, hL k h4, h5⟩

/-- the slots that an operation looks at are our order's -/
theorem slots (ok : C.Ok P G call) (hk : k < C.n) (hLk : L k = false) (hcl : ∀ k m, m < C.n → C.bef k m = true → L m = true → L k = true)
    (hbef : ∀ j, C.bef j k = true → L j = true) {x : Nat} (hx : x ∈ C.looks k) :
    (C.T L C.n)[x]? = (C.t k)[x]? ∧ (C.T (fun j => L j && decide (j < k)) C.n)[x]? = (C.t k)[x]? := by
  have e1 : C.T (fun j => decide (j < k)) C.n = C.t k := by rw [T_lt C.n (by omega), T_all ok k (by omega)]
  constructor
  · rw [← e1]
    refine (T_congr x C.n (fun j hj hd => ?_)).1
    by_cases h1 : j < k
    · have := hbef j (ok.names j k h1 hk (.inl ⟨x, hd, .inl hx⟩))
      simp [this, h1]
    · by_cases h2 : j = k
      · subst h2; simp [hLk]
      · have hb := ok.names k j (by omega) hj (.inr ⟨x, hd, hx⟩)
        cases hq : L j with
        | false => simp [h1]
        | true => have := hcl k j hj hb hq; rw [hLk] at this; cases this
  · rw [← e1]
    refine (T_congr x C.n (fun j hj hd => ?_)).1
    by_cases h1 : j < k
    · have := hbef j (ok.names j k h1 hk (.inl ⟨x, hd, .inl hx⟩))
      simp [this, h1]
    · simp [h1]

theorem mem_looks {x : Nat} (hx : Operand.tmp x ∈ (C.op k).op.operands) : x ∈ C.looks k := by
  unfold looks Oper.looksAt
  refine List.mem_append.2 (.inl ?_)
  rw [List.mem_filterMap]
  exact ⟨.tmp x, by simpa using hx, rfl⟩

theorem aev_slots {t t' : List AV} (hh : ∀ x, x ∈ C.looks k → t[x]? = t'[x]?) : ∀ x, x ∈ (C.op k).op.operands → aev G t x = aev G t' x := by
  intro x hx
  cases x with
  | tmp y => simp only [aev, List.getD_eq_getElem?_getD, hh y (mem_looks hx)]
  | _ => rfl

theorem exec_slots (ok : C.Ok P G call) (hk : k < C.n) {t t' : List AV} {a : Act} (ha : a.tmps = (AV.denL ρ t).toArray) (hh : ∀ x, x ∈ C.looks k → t[x]? = t'[x]?) :
    execOp a.eval (C.op k) = execOp (evOf ρ t') (C.op k) := by
  refine execOp_congr _ (ok.nosel k hk) (fun x hx => ?_)
  cases x with
  | tmp y =>
    simp only [Act.eval, evOf, ha, getD_den, List.getD_eq_getElem?_getD, hh y (mem_looks hx)]
  | _ => rfl

theorem wanted_slots {t t' : List AV} (hh : ∀ x, x ∈ C.looks k → t[x]? = t'[x]?) : Region.wanted (C.op k) (ayield C.ops t) = Region.wanted (C.op k) (ayield C.ops t') := by
  unfold Region.wanted
  cases hg : (C.op k).guard with
  | none => rfl
  | some g =>
    obtain ⟨j, b⟩ := g
    simp only
    congr 1
    unfold ayield
    cases hd : (C.ops[j]?).bind (·.dst) with
    | none => rfl
    | some d =>
      simp only [Option.bind_some]
      rw [hh d]
      unfold looks Oper.looksAt
      refine List.mem_append.2 (.inr ?_)
      rw [hg]
      simp [hd]

/-- a place is put down as carried out: what does not hang on its kind -/
theorem Inv.tmps' (ok : C.Ok P G call) (I : Inv C N G ρ0 w0 L a w p ρ) (hk : k < C.n) (h1 : L k = false) (h2 : L' k = true) (h3 : ∀ j, j ≠ k → L' j = L j) :
    C.T L' C.n = aput (C.T L C.n) (C.dst k) (C.v k) := by
  refine T_put h1 h2 h3 (fun j hj hL x hx hd => ?_) C.n hk
  have hjn : j < C.n := by
    rcases Nat.lt_or_ge j C.n with q | q
    · exact q
    · exact absurd hL (by rw [I.out j q]; simp)
  have := I.closed k j hjn (ok.names k j hj hjn (.inl ⟨x, hx, .inr hd⟩)) hL
  rw [h1] at this; cases this

theorem Inv.closed' (I : Inv C N G ρ0 w0 L a w p ρ) (h3 : ∀ j, j ≠ k → L' j = L j) (h2 : L' k = true) (hbef : ∀ j, C.bef j k = true → L j = true) :
    ∀ j m, m < C.n → C.bef j m = true → L' m = true → L' j = true := by
  intro j m hm hb hL
  by_cases e : j = k
  · rw [e]; exact h2
  · rw [h3 j e]
    by_cases em : m = k
    · rw [em] at hb; exact hbef j hb
    · rw [h3 m em] at hL; exact I.closed j m hm hb hL

theorem Inv.readStep (ok : C.Ok P G call) (I : Inv C N G ρ0 w0 L a w p ρ) (hk : k < C.n) (h1 : L k = false) (h2 : L' k = true) (h3 : ∀ j, j ≠ k → L' j = L j)
    (hbef : ∀ j, C.bef j k = true → L j = true) (hcl : C.cls k = .rd) (hv1 : (C.v k).ws (C.Sp L p)) (hv2 : (C.v k).ws (below (C.h (k + 1)).n)) :
    Inv C N G ρ0 w0 L' (a.put (C.dst k) ((C.v k).den ρ)) w p ρ := by
  have hmono : ∀ j, L j = true → L' j = true := fun j hj => by
    by_cases e : j = k
    · rw [e]; exact h2
    · rw [h3 j e]; exact hj
  have hT := I.tmps' ok hk h1 h2 h3
  refine ⟨I.pLe, I.w0N, I.start, ?_, fun j hj => hmono j (I.pre j hj), I.closed' h3 h2 hbef, I.r, I.stp, ?_, (by cases C.dst k <;> exact I.defers), ?_, ?_, ?_, ?_, ?_⟩
  · intro j hj hc
    have : j ≠ k := fun e => by rw [e, hcl] at hc; cases hc
    rw [h3 j this]; exact I.eff j hj hc
  · rw [hT]
    cases hd : C.dst k with
    | none => exact I.tmps
    | some d =>
      simp only [Act.put, aput, I.tmps]
      apply Array.ext'
      simp [denL_map, List.map_set]
  · intro j hj hL
    by_cases e : j = k
    · rw [e]; exact ⟨ws_mono (Sp_mono hmono) _ hv1, hv2⟩
    · rw [h3 j e] at hL
      exact ⟨ws_mono (Sp_mono hmono) _ (I.vws j hj hL).1, (I.vws j hj hL).2⟩
  · intro j hpj hj hc hL
    have e : j ≠ k := fun e => by rw [e, hcl] at hc; cases hc
    rw [h3 j e] at hL
    obtain ⟨cs, esz, E, g1, g2, g3, g4, g5, g6, g7, g8⟩ := I.pend j hpj hj hc hL
    exact ⟨cs, esz, E, g1, g2, g3, g4, g5, g6, wsL_mono (Sp_mono hmono) _ g7, g8⟩
  · intro j m hpj hj hcj hLj hpm hm hcm hLm hne
    have e1 : j ≠ k := fun e => by rw [e, hcl] at hcj; cases hcj
    have e2 : m ≠ k := fun e => by rw [e, hcl] at hcm; cases hcm
    rw [h3 j e1] at hLj
    rw [h3 m e2] at hLm
    exact I.pdist j m hpj hj hcj hLj hpm hm hcm hLm hne
  · intro j hj
    have e : j ≠ k := by omega
    rw [h3 j e]; exact I.out j hj
  · exact I.t0ws
end
end Can
end Go.Sx
namespace Go.Sx
open Go Go.RowKit
namespace Can
section
variable {C : Can} {N : Nat} {G : Nat → Option Nat} {P : Program} {call : CallF} {ρ0 ρ : Env} {w0 w : World} {L L' : Nat → Bool} {a : Act} {p k : Nat}

theorem Inv.le (hc : CallOk P N G call) (ok : C.Ok P G call) (I : Inv C N G ρ0 w0 L a w p ρ) (h1 : L k = false) (hk : k < C.n) : p ≤ k := by
  rcases Nat.lt_or_ge k p with q | q
  · have := I.pre k q; rw [h1] at this; cases this
  · exact q

/-- ids named now, but not this one -/
theorem Inv.Sp_ne (hc : CallOk P N G call) (ok : C.Ok P G call) (I : Inv C N G ρ0 w0 L a w p ρ) (h1 : L k = false) (hk : k < C.n) (hal : C.cls k = .al) {x : Nat} (hx : C.Sp L p x) : x ≠ (C.h k).n := by
  have hpk := I.le hc ok h1 hk
  rcases hx with h | ⟨m, m1, m2, m3, m4, m5⟩
  · have := mono hc ok hpk (by omega); omega
  · subst m5
    rcases Nat.lt_trichotomy m k with q | q | q
    · have h2 := al_lt hc ok m2 m3
      have h3 := mono hc ok (show m + 1 ≤ k by omega) (by omega)
      intro e; omega
    · subst q; rw [h1] at m4; cases m4
    · have h2 := al_lt hc ok hk hal
      have h3 := mono hc ok (show k + 1 ≤ m by omega) (by omega)
      intro e; omega

theorem Inv.alStep (hc : CallOk P N G call) (ok : C.Ok P G call) (I : Inv C N G ρ0 w0 L a w p ρ) (hk : k < C.n) (h1 : L k = false) (h2 : L' k = true) (h3 : ∀ j, j ≠ k → L' j = L j)
    (hbef : ∀ j, C.bef j k = true → L j = true) (hcl : C.cls k = .al) {cs : List AV} {esz : Nat} {E : TypeId} (hh : C.h (k + 1) = (C.h k).alloc (.cells cs false esz))
    (hw1 : AV.wsL (C.Sp L p) cs) (hw2 : AV.wsL (below (C.h k).n) cs) (hv : (C.v k).ws (fun i => i = (C.h k).n)) :
    Inv C N G ρ0 w0 L' (a.put (C.dst k) ((C.v k).den (upd ρ (C.h k).n ⟨w.heap.size, 0, 0, none⟩))) (w.alloc (.cells (AV.denL ρ cs).toArray E)) p (upd ρ (C.h k).n ⟨w.heap.size, 0, 0, none⟩) := by
  have hmono : ∀ j, L j = true → L' j = true := fun j hj => by
    by_cases e : j = k
    · rw [e]; exact h2
    · rw [h3 j e]; exact hj
  have hT := I.tmps' ok hk h1 h2 h3
  have hpk := I.le hc ok h1 hk
  have hne : ∀ x, C.Sp L p x → upd ρ (C.h k).n ⟨w.heap.size, 0, 0, none⟩ x = ρ x := fun x hx => upd_ne _ _ (I.Sp_ne hc ok h1 hk hcl hx)
  have hlow : ∀ x, x < (C.h p).n → upd ρ (C.h k).n ⟨w.heap.size, 0, 0, none⟩ x = ρ x := fun x hx => hne x (.inl hx)
  have hbelow : Below w.heap.size w (w.alloc (.cells (AV.denL ρ cs).toArray E)) := (Below.refl _ _).alloc (Nat.le_refl _) _
  have hr : R N G (upd ρ (C.h k).n ⟨w.heap.size, 0, 0, none⟩) (C.h p) (w.alloc (.cells (AV.denL ρ cs).toArray E)) := by
    refine R.env (ρ := ρ) ?_ hlow
    refine ⟨I.r.lt, I.r.ws, ?_, I.r.low, I.r.high, I.r.apart, by have := I.r.base; simp; omega, I.r.glob⟩
    intro i o hi
    exact Fits.keep (Ext.refl (below (C.h p).n) _) (I.r.lt i o hi) (I.r.ws i o hi) (fun ob hob => by
      rw [hbelow.block _ (Array.getElem?_eq_some_iff.1 hob).1]; exact hob) (I.r.fits i o hi)
  have hTws : AV.wsL (C.Sp L p) (C.T L C.n) := I.Tws
  have hTden : AV.denL (upd ρ (C.h k).n ⟨w.heap.size, 0, 0, none⟩) (C.T L C.n) = AV.denL ρ (C.T L C.n) := denL_ext (n := C.Sp L p) hne _ hTws
  refine ⟨I.pLe, I.w0N, I.start, ?_, fun j hj => hmono j (I.pre j hj), I.closed' h3 h2 hbef, hr, ?_, ?_, (by cases C.dst k <;> exact I.defers), ?_, ?_, ?_, ?_, ?_⟩
  · intro j hj hcj
    have : j ≠ k := fun e => by rw [e, hcl] at hcj; cases hcj
    rw [h3 j this]; exact I.eff j hj hcj
  · refine ⟨fun i hi => ?_, I.stp.n, I.stp.os, I.stp.tape, I.stp.output, by have := I.stp.size; simp; omega, ?_, ?_⟩
    · rw [hlow i (Nat.lt_of_lt_of_le hi I.stp.n)]; exact I.stp.ext i hi
    · intro b hb; exact I.stp.own b (Owned.env I.r hlow hb)
    · intro b hb hn
      rw [hbelow.block b (Nat.lt_of_lt_of_le hb I.stp.size)]; exact I.stp.keep b hb hn
  · rw [hT]
    cases hd : C.dst k with
    | none => simp only [Act.put, aput, I.tmps, hTden]
    | some d =>
      simp only [Act.put, aput, I.tmps, ← hTden]
      apply Array.ext'
      simp [denL_map, List.map_set]
  · intro j hj hL
    by_cases e : j = k
    · rw [e]
      refine ⟨ws_mono (fun x hx => ?_) _ hv, ws_mono (fun x hx => ?_) _ hv⟩
      · rw [hx]; exact .inr ⟨k, hpk, hk, hcl, h2, rfl⟩
      · rw [hx]; exact al_lt hc ok hk hcl
    · rw [h3 j e] at hL
      exact ⟨ws_mono (Sp_mono hmono) _ (I.vws j hj hL).1, (I.vws j hj hL).2⟩
  · intro j hpj hj hcj hL
    by_cases e : j = k
    · subst e
      refine ⟨cs, esz, E, hh, ?_, ?_, ?_, ?_, ?_, wsL_mono (Sp_mono hmono) _ hw1, hw2⟩
      · rw [upd_self, denL_ext (n := C.Sp L p) hne _ hw1]
        show (w.heap.push _)[w.heap.size]? = _
        simp
      · rw [upd_self]
      · rw [upd_self]; exact ⟨rfl, rfl⟩
      · rw [upd_self]; exact I.stp.size
      · rw [upd_self]
        intro ho
        obtain ⟨i, o, hi, ho', hb⟩ := Owned.env I.r hlow ho
        have := I.r.block_lt hi ho'
        have hb' : (ρ i).b = w.heap.size := hb
        omega
    · rw [h3 j e] at hL
      obtain ⟨cs', esz', E', g1, g2, g3, g4, g5, g6, g7, g8⟩ := I.pend j hpj hj hcj hL
      have hid : upd ρ (C.h k).n ⟨w.heap.size, 0, 0, none⟩ (C.h j).n = ρ (C.h j).n := hne _ (.inr ⟨j, hpj, hj, hcj, hL, rfl⟩)
      refine ⟨cs', esz', E', g1, ?_, by rw [hid]; exact g3, by rw [hid]; exact g4, by rw [hid]; exact g5, by rw [hid]; exact fun ho => g6 (Owned.env I.r hlow ho), wsL_mono (Sp_mono hmono) _ g7, g8⟩
      rw [hid, denL_ext (n := C.Sp L p) hne _ g7, hbelow.block _ (Array.getElem?_eq_some_iff.1 g2).1]
      exact g2
  · intro j m hpj hj hcj hLj hpm hm hcm hLm hjm
    have old : ∀ i, i ≠ k → p ≤ i → i < C.n → C.cls i = .al → L' i = true → upd ρ (C.h k).n ⟨w.heap.size, 0, 0, none⟩ (C.h i).n = ρ (C.h i).n ∧ (ρ (C.h i).n).b < w.heap.size ∧ L i = true := by
      intro i hi1 hi2 hi3 hi4 hi5
      rw [h3 i hi1] at hi5
      obtain ⟨_, _, _, _, g2, _⟩ := I.pend i hi2 hi3 hi4 hi5
      exact ⟨hne _ (.inr ⟨i, hi2, hi3, hi4, hi5, rfl⟩), (Array.getElem?_eq_some_iff.1 g2).1, hi5⟩
    by_cases e1 : j = k
    · by_cases e2 : m = k
      · exact absurd (e1.trans e2.symm) hjm
      · obtain ⟨o1, o2, _⟩ := old m e2 hpm hm hcm hLm
        rw [e1, upd_self, o1]
        show w.heap.size ≠ _
        omega
    · obtain ⟨o1, o2, o3⟩ := old j e1 hpj hj hcj hLj
      by_cases e2 : m = k
      · rw [e2, upd_self, o1]
        show _ ≠ w.heap.size
        omega
      · obtain ⟨q1, q2, q3⟩ := old m e2 hpm hm hcm hLm
        rw [o1, q1]
        exact I.pdist j m hpj hj hcj o3 hpm hm hcm q3 hjm
  · intro j hj
    have e : j ≠ k := by omega
    rw [h3 j e]; exact I.out j hj
  · exact I.t0ws

theorem Inv.effStep (hc : CallOk P N G call) (ok : C.Ok P G call) (I : Inv C N G ρ0 w0 L a w p ρ) (hk : k < C.n) (h1 : L k = false) (h2 : L' k = true) (h3 : ∀ j, j ≠ k → L' j = L j)
    (hbef : ∀ j, C.bef j k = true → L j = true) (hcl : C.cls k = .eff) {ρ1 : Env} {w1 : World}
    (r1 : R N G ρ1 (C.h (k + 1)) w1) (s1 : Stp ρ (C.h k) w ρ1 (C.h (k + 1)) w1) (hv : (C.v k).ws (below (C.h (k + 1)).n)) :
    Inv C N G ρ0 w0 L' (a.put (C.dst k) ((C.v k).den ρ1)) w1 (k + 1) (fun x => if x < (C.h (k + 1)).n then ρ1 x else ρ x) := by
  have hmono : ∀ j, L j = true → L' j = true := fun j hj => by
    by_cases e : j = k
    · rw [e]; exact h2
    · rw [h3 j e]; exact hj
  have hT := I.tmps' ok hk h1 h2 h3
  have hpk := I.le hc ok h1 hk
  have hall : ∀ j, j < k → L j = true := fun j hj => hbef j (ok.effs k hk hcl j hj)
  obtain ⟨ra, sa, oa⟩ := absorb hc ok I k hpk (by omega) (fun j _ hj => hall j hj)
  have hm1 := mono1 hc ok hk
  generalize hρ2 : (fun x => if x < (C.h (k + 1)).n then ρ1 x else ρ x : Env) = ρ2
  have hlow : ∀ x, x < (C.h (k + 1)).n → ρ2 x = ρ1 x := fun x hx => by rw [← hρ2]; exact if_pos hx
  have hhigh : ∀ x, ¬ x < (C.h (k + 1)).n → ρ2 x = ρ x := fun x hx => by rw [← hρ2]; exact if_neg hx
  -- what was named before is as it was
  have hne : ∀ x, C.Sp L p x → ρ2 x = ρ x := by
    rintro x (h | ⟨m, m1, m2, m3, m4, m5⟩)
    · have := mono hc ok hpk (by omega)
      rw [hlow x (by omega)]; exact s1.ext x (by show x < (C.h k).n; omega)
    · subst m5
      rcases Nat.lt_trichotomy m k with q | q | q
      · have g1 := al_lt hc ok m2 m3
        have g2 := mono hc ok (show m + 1 ≤ k by omega) (by omega)
        rw [hlow _ (by omega)]; exact s1.ext _ (by show (C.h m).n < (C.h k).n; omega)
      · subst q; rw [h1] at m4; cases m4
      · have g2 := mono hc ok (show k + 1 ≤ m by omega) (by omega)
        rw [hhigh _ (by omega)]
  have hSp : ∀ x, C.Sp L p x → C.Sp L' (k + 1) x := by
    rintro x (h | ⟨m, m1, m2, m3, m4, m5⟩)
    · have := mono hc ok hpk (by omega); exact .inl (by omega)
    · rcases Nat.lt_trichotomy m k with q | q | q
      · have g1 := al_lt hc ok m2 m3
        have g2 := mono hc ok (show m + 1 ≤ k by omega) (by omega)
        exact .inl (by rw [m5]; omega)
      · subst q; rw [h1] at m4; cases m4
      · exact .inr ⟨m, by omega, m2, m3, hmono m m4, m5⟩
  have hTden : AV.denL ρ2 (C.T L C.n) = AV.denL ρ (C.T L C.n) := denL_ext (n := C.Sp L p) hne _ I.Tws
  have hvden : (C.v k).den ρ2 = (C.v k).den ρ1 := den_ext (n := below (C.h (k + 1)).n) hlow _ hv
  have s2 := sa.trans s1
  refine ⟨by omega, I.w0N, .inr (by simpa using hcl), ?_, ?_, I.closed' h3 h2 hbef, R.env r1 hlow, ?_, ?_, (by cases C.dst k <;> exact I.defers), ?_, ?_, ?_, ?_, ?_⟩
  · intro j hj hcj
    by_cases e : j = k
    · rw [e, h2]; simp
    · rw [h3 j e]
      have := I.eff j hj hcj
      constructor
      · intro hL; have := this.1 hL; omega
      · intro hjk; exact hall j (by omega)
  · intro j hj
    by_cases e : j = k
    · rw [e]; exact h2
    · exact hmono j (hall j (by omega))
  · refine ⟨fun i hi => ?_, s2.n, s2.os, s2.tape, s2.output, s2.size, ?_, s2.keep⟩
    · rw [hlow i (Nat.lt_of_lt_of_le hi s2.n)]; exact s2.ext i hi
    · intro b hb; exact s2.own b (Owned.env r1 hlow hb)
  · rw [hT]
    cases hd : C.dst k with
    | none => simp only [Act.put, aput, I.tmps, hTden]
    | some d =>
      simp only [Act.put, aput, I.tmps, ← hTden, ← hvden]
      apply Array.ext'
      simp [denL_map, List.map_set]
  · intro j hj hL
    by_cases e : j = k
    · rw [e]; exact ⟨ws_mono (fun x hx => .inl hx) _ hv, hv⟩
    · rw [h3 j e] at hL
      exact ⟨ws_mono hSp _ (I.vws j hj hL).1, (I.vws j hj hL).2⟩
  · intro j hpj hj hcj hL
    have e : j ≠ k := by omega
    rw [h3 j e] at hL
    obtain ⟨cs', esz', E', g1, g2, g3, g4, g5, g6, g7, g8⟩ := I.pend j (by omega) hj hcj hL
    have hid : ρ2 (C.h j).n = ρ (C.h j).n := hne _ (.inr ⟨j, by omega, hj, hcj, hL, rfl⟩)
    have hfree : ¬ Owned ρ (C.h k) (ρ (C.h j).n).b := fun ho => by
      rcases oa _ ho with h | ⟨m, q1, q2, q3, q4⟩
      · exact g6 h
      · exact I.pdist j m (by omega) hj hcj hL q1 (by omega) q3 (hall m q2) (by omega) q4
    have hlt := (Array.getElem?_eq_some_iff.1 g2).1
    refine ⟨cs', esz', E', g1, ?_, by rw [hid]; exact g3, by rw [hid]; exact g4, by rw [hid]; exact g5, ?_, wsL_mono hSp _ g7, g8⟩
    · rw [hid, denL_ext (n := C.Sp L p) hne _ g7, s1.keep _ hlt hfree]; exact g2
    · rw [hid]
      intro ho
      rcases s1.own _ (Owned.env r1 hlow ho) with h | h
      · exact hfree h
      · omega
  · intro j m hpj hj hcj hLj hpm hm hcm hLm hjm
    rw [h3 j (by omega)] at hLj
    rw [h3 m (by omega)] at hLm
    rw [hne _ (.inr ⟨j, by omega, hj, hcj, hLj, rfl⟩), hne _ (.inr ⟨m, by omega, hm, hcm, hLm, rfl⟩)]
    exact I.pdist j m (by omega) hj hcj hLj (by omega) hm hcm hLm hjm
  · intro j hj
    have e : j ≠ k := by omega
    rw [h3 j e]; exact I.out j hj
  · exact I.t0ws
end
end Can
end Go.Sx
namespace Go.Sx
open Go Go.RowKit
namespace Can
section
variable {C : Can} {N : Nat} {G : Nat → Option Nat} {P : Program} {call : CallF} {ρ0 ρ : Env} {w0 w : World} {a : Act} {p k : Nat}

def Lof (C : Can) (listed : Array Bool) : Nat → Bool := fun k => decide (k < C.n) && listed.getD (C.pi k) false

def left (C : Can) (listed : Array Bool) : Nat := ((List.range C.n).filter fun i => !listed.getD i false).length

mutual
theorem _root_.Go.Sx.ws_and {S S' : Nat → Prop} : ∀ {v : AV}, v.ws S → v.ws S' → v.ws (fun x => S x ∧ S' x)
  | .bool _, _, _ => trivial
  | .int _ _, _, _ => trivial
  | .str _, _, _ => trivial
  | .ptr none, _, _ => trivial
  | .ptr (some (_, _)), h, h' => ⟨h, h'⟩
  | .slice none _ _ _ _, _, _ => trivial
  | .slice (some (_, _)) _ _ _ _, h, h' => ⟨h, h'⟩
  | .map none, _, _ => trivial
  | .map (some _), h, h' => ⟨h, h'⟩
  | .chan none, _, _ => trivial
  | .chan (some _), h, h' => ⟨h, h'⟩
  | .func _ _ _, h, h' => ⟨Go.Sx.wsL_and h.1 h'.1, Go.Sx.wsL_and h.2 h'.2⟩
  | .nilFunc, _, _ => trivial
  | .iface _ v, h, h' => Go.Sx.ws_and (v := v) h h'
  | .nilIface, _, _ => trivial
  | .agg _, h, h' => Go.Sx.wsL_and h h'
  | .tuple _, h, h' => Go.Sx.wsL_and h h'
theorem _root_.Go.Sx.wsL_and {S S' : Nat → Prop} : ∀ {l : List AV}, AV.wsL S l → AV.wsL S' l → AV.wsL (fun x => S x ∧ S' x) l
  | [], _, _ => trivial
  | _ :: _, h, h' => ⟨Go.Sx.ws_and h.1 h'.1, Go.Sx.wsL_and h.2 h'.2⟩
end

theorem op_get (ok : C.Ok P G call) (hk : k < C.n) : C.ops[C.pi k]? = some (C.op k) := by
  have := ok.piLt k hk
  unfold op
  rw [Array.getD_eq_getD_getElem?]
  have h2 : C.pi k < C.ops.size := this
  rw [Array.getElem?_eq_getElem h2]
  rfl

theorem left_set {listed : Array Bool} {i : Nat} (hs : listed.size = C.n) (hi : i < C.n) (hl : listed.getD i false = false) :
    C.left (listed.setIfInBounds i true) < C.left listed := by
  unfold left
  have h1 : ((List.range C.n).filter fun j => !(listed.setIfInBounds i true).getD j false) = ((List.range C.n).filter fun j => !listed.getD j false).filter fun j => decide (j ≠ i) := by
    rw [List.filter_filter]
    apply List.filter_congr
    intro j hj
    by_cases e : i = j
    · subst e
      have : (listed.setIfInBounds i true).getD i false = true := by
        simp only [Array.getD_eq_getD_getElem?]
        rw [Array.getElem?_setIfInBounds_self_of_lt (by omega)]; rfl
      simp [this]
    · rw [getD_set_ne false e]
      have : j ≠ i := fun q => e q.symm
      simp [this]
  rw [h1]
  refine Nat.lt_of_le_of_ne (List.length_filter_le _ _) (fun e => ?_)
  have := List.length_filter_eq_length_iff.1 e i (by rw [List.mem_filter]; exact ⟨List.mem_range.2 hi, by simp [hl]⟩)
  simp at this

theorem Lof_set {listed : Array Bool} (ok : C.Ok P G call) (hs : listed.size = C.n) (hk : k < C.n) :
    C.Lof (listed.setIfInBounds (C.pi k) true) k = true ∧ ∀ j, j ≠ k → C.Lof (listed.setIfInBounds (C.pi k) true) j = C.Lof listed j := by
  have hp := ok.piLt k hk
  constructor
  · unfold Lof
    simp only [hk, decide_true, Bool.true_and, Array.getD_eq_getD_getElem?]
    rw [Array.getElem?_setIfInBounds_self_of_lt (by omega)]; rfl
  · intro j hj
    unfold Lof
    by_cases hjn : j < C.n
    · rw [getD_set_ne false (fun e => hj (ok.piInj j k hjn hk e.symm))]
    · simp [hjn]

theorem sound {Q : Exit → Act → World → Prop} (hc : CallOk P N G call) (ok : C.Ok P G call)
    (hQ : ∀ ρ' a' w', R N G ρ' (C.h C.n) w' → Stp ρ0 (C.h 0) w0 ρ' (C.h C.n) w' → TR (below (C.h C.n).n) ρ' (C.t C.n) a' → Q .normal a' w') :
    ∀ (fuel : Nat) (listed : Array Bool) (a : Act) (w : World) (p : Nat) (ρ : Env), listed.size = C.n → C.left listed ≤ fuel → Inv C N G ρ0 w0 (C.Lof listed) a w p ρ →
      wpAny P .any C.ops Q fuel listed a w := by
  -- where nothing may come up, all have come up
  have hdone : ∀ (listed : Array Bool) (a : Act) (w : World) (p : Nat) (ρ : Env), listed.size = C.n → Inv C N G ρ0 w0 (C.Lof listed) a w p ρ → Region.ready .any C.ops listed = [] → Q .normal a w := by
    intro listed a w p ρ hs I hr
    have hall : ∀ k, k < C.n → C.Lof listed k = true := by
      intro k
      induction k using Nat.strongRecOn with
      | _ k ih =>
        intro hk
        cases hq : C.Lof listed k with
        | true => rfl
        | false =>
          exfalso
          have hmem : C.pi k ∈ Region.ready .any C.ops listed := by
            rw [mem_ready]
            have hl : listed.getD (C.pi k) false = false := by simpa [Lof, hk] using hq
            refine ⟨?_, C.op k, op_get ok hk, ?_⟩
            · have := ok.piLt k hk
              simp only [Array.getD_eq_getD_getElem?] at hl ⊢
              have h2 : C.pi k < listed.size := by omega
              rw [Array.getElem?_eq_getElem h2] at hl ⊢
              exact hl
            · intro e he hb
              obtain ⟨j, hj, hpj, hbj⟩ := ok.edge k hk e he hb
              have := ih j (ok.befLt j k hk hbj) hj
              rw [← hpj]; simpa [Lof, hj] using this
          rw [hr] at hmem; cases hmem
    obtain ⟨ra, sa, _⟩ := absorb hc ok I C.n I.pLe (Nat.le_refl _) (fun k _ hk => hall k hk)
    have hT : C.T (C.Lof listed) C.n = C.t C.n := by
      rw [← T_all ok C.n (Nat.le_refl _)]
      apply List.ext_getElem?
      intro x
      exact (T_congr x C.n (fun k hk _ => hall k hk)).1
    refine hQ ρ a w ra sa ⟨by rw [I.tmps, hT], I.defers, ?_⟩
    rw [← hT]
    exact T_ws (wsL_mono (fun _ hx => Nat.lt_of_lt_of_le hx (mono hc ok (Nat.zero_le _) (Nat.le_refl _))) _ I.t0ws) C.n
      (fun k hk hL => ws_mono (fun _ hx => Nat.lt_of_lt_of_le hx (mono hc ok (by omega) (Nat.le_refl _))) _ (I.vws k hk hL).2)
  intro fuel
  induction fuel with
  | zero =>
    intro listed a w p ρ hs hf I
    have hr : Region.ready .any C.ops listed = [] := by
      unfold left at hf
      have h0 := List.eq_nil_of_length_eq_zero (Nat.le_zero.1 hf)
      cases hq : Region.ready .any C.ops listed with
      | nil => rfl
      | cons i rs =>
        have hm : i ∈ Region.ready .any C.ops listed := by rw [hq]; exact List.mem_cons_self ..
        rw [mem_ready] at hm
        obtain ⟨h1, o, ho, _⟩ := hm
        have hi : i < C.n := (Array.getElem?_eq_some_iff.1 ho).1
        have : i ∈ (List.range C.n).filter fun i => !listed.getD i false := by
          rw [List.mem_filter]
          refine ⟨List.mem_range.2 hi, ?_⟩
          simp only [Array.getD_eq_getD_getElem?] at h1 ⊢
          have h2 : i < listed.size := by omega
          rw [Array.getElem?_eq_getElem h2] at h1 ⊢
          simp only [Option.getD_some] at h1 ⊢
          simp [h1]
        rw [h0] at this; cases this
    exact ⟨hr, hdone listed a w p ρ hs I hr⟩
  | succ fuel ih =>
    intro listed a w p ρ hs hf I
    refine ⟨hdone listed a w p ρ hs I, fun i hi => ?_⟩
    rw [mem_ready] at hi
    obtain ⟨hl, o, ho, hpre⟩ := hi
    have hin : i < C.n := (Array.getElem?_eq_some_iff.1 ho).1
    obtain ⟨k, hk, rfl⟩ := ok.piSurj i hin
    have hok := op_get ok hk
    have hoe : o = C.op k := by rw [hok] at ho; exact (Option.some.inj ho).symm
    subst hoe
    have hlf : listed.getD (C.pi k) false = false := by
      simp only [Array.getD_eq_getD_getElem?] at hl ⊢
      have h2 : C.pi k < listed.size := by omega
      rw [Array.getElem?_eq_getElem h2] at hl ⊢
      exact hl
    have hLk : C.Lof listed k = false := by simp [Lof, hlf]
    have hbef : ∀ j, C.bef j k = true → C.Lof listed j = true := by
      intro j hb
      obtain ⟨e, he, hbi, k', hk', hpk', hor⟩ := ok.just j k hk hb
      have hlk' : C.Lof listed k' = true := by
        have := hpre e he hbi
        rw [← hpk'] at this
        simp [Lof, hk', this]
      rcases hor with rfl | hbk
      · exact hlk'
      · exact I.closed j k' hk' hbk hlk'
    obtain ⟨hL2, hL3⟩ := Lof_set (listed := listed) ok hs hk
    have hsl := fun {x : Nat} (hx : x ∈ C.looks k) => slots (C := C) (L := C.Lof listed) ok hk hLk I.closed hbef hx
    have hs1 : ∀ x, x ∈ C.looks k → (C.T (C.Lof listed) C.n)[x]? = (C.t k)[x]? := fun x hx => (hsl hx).1
    have hs2 : ∀ x, x ∈ C.looks k → (C.T (fun j => C.Lof listed j && decide (j < k)) C.n)[x]? = (C.t k)[x]? := fun x hx => (hsl hx).2
    have hs12 : ∀ x, x ∈ C.looks k → (C.T (C.Lof listed) C.n)[x]? = (C.T (fun j => C.Lof listed j && decide (j < k)) C.n)[x]? := fun x hx => by rw [hs1 x hx, hs2 x hx]
    have hwant : Region.wanted (C.op k) (yielded C.ops a.tmps) = Region.wanted (C.op k) (ayield C.ops (C.t k)) := by
      rw [I.tmps, wanted_eq, wanted_slots hs1]
    have hnext : ∀ a' w' p' ρ', Inv C N G ρ0 w0 (C.Lof (listed.setIfInBounds (C.pi k) true)) a' w' p' ρ' → wpAny P .any C.ops Q fuel (listed.setIfInBounds (C.pi k) true) a' w' :=
      fun a' w' p' ρ' I' => ih _ a' w' p' ρ' (by simpa using hs) (by have := left_set (C := C) hs hin hlf; omega) I'
    have hpk := I.le hc ok hLk hk
    -- the ids of what it may look at
    let S : Nat → Prop := fun x => C.Sp (C.Lof listed) p x ∧ x < (C.h k).n
    have hlow : ∀ x, x < (C.h p).n → S x := fun x hx => ⟨.inl hx, Nat.lt_of_lt_of_le hx (mono hc ok hpk (by omega))⟩
    have hTws : AV.wsL S (C.T (fun j => C.Lof listed j && decide (j < k)) C.n) := by
      refine T_ws (wsL_mono (fun x hx => hlow x (Nat.lt_of_lt_of_le hx I.stp.n)) _ I.t0ws) C.n (fun j hj hL => ?_)
      simp only [Bool.and_eq_true, decide_eq_true_eq] at hL
      have hv := I.vws j hj hL.1
      have hm := mono hc ok (show j + 1 ≤ k by omega) (by omega)
      exact ws_and hv.1 (ws_mono (fun x hx => Nat.lt_of_lt_of_le hx hm) _ hv.2)
    have hEv : Evs (aev G (C.T (fun j => C.Lof listed j && decide (j < k)) C.n)) (evOf ρ (C.T (fun j => C.Lof listed j && decide (j < k)) C.n)) ρ S :=
      Evs.mk (I.r.globS hlow) hTws
    have hexec : execOp a.eval (C.op k) = execOp (evOf ρ (C.T (fun j => C.Lof listed j && decide (j < k)) C.n)) (C.op k) := exec_slots ok hk I.tmps hs12
    have haev : ∀ x, x ∈ (C.op k).op.operands → aev G (C.t k) x = aev G (C.T (fun j => C.Lof listed j && decide (j < k)) C.n) x := aev_slots (fun x hx => (hs2 x hx).symm)
    unfold wpOp
    simp only [hok, hwant]
    rcases ok.step k hk with ⟨hw0, hv0, hh, hcl⟩ | ⟨hw1, hst⟩
    · rw [hw0]
      simp only [Bool.false_eq_true, if_false]
      have hI := I.readStep ok hk hLk hL2 hL3 hbef hcl (by rw [hv0]; trivial) (by rw [hv0]; trivial)
      have hu : undef = (C.v k).den ρ := by rw [hv0]; rfl
      rw [hu]
      exact hnext _ _ _ _ hI
    · rw [hw1]
      simp only [if_true]
      refine .inl ?_
      unfold Oper.wp
      rcases hst with ⟨hcl, hh, hrd⟩ | ⟨hcl, hef⟩ | ⟨hcl, hal, haw⟩
      · have h1 := hrd p hpk I.start (fun m hm hcm hb => (I.eff m hm hcm).1 (hbef m hb))
        rw [aread_congr haev] at h1
        obtain ⟨g1, g2⟩ := aread_sound (P := P) I.r hlow hEv h1
        rw [hexec, g1, Oper.upon_value]
        refine hnext _ _ _ _ (I.readStep ok hk hLk hL2 hL3 hbef hcl (ws_mono (fun x hx => hx.1) _ g2) (ws_mono (fun x hx => ?_) _ g2))
        show x < (C.h (k + 1)).n
        rw [hh]; exact hx.2
      · have hall : ∀ j, j < k → C.Lof listed j = true := fun j hj => hbef j (ok.effs k hk hcl j hj)
        obtain ⟨ra, sa, _⟩ := absorb hc ok I k hpk (by omega) (fun j _ hj => hall j hj)
        have htk : AV.wsL (below (C.h k).n) (C.t k) := by
          rw [← T_all ok k (by omega)]
          refine T_ws (wsL_mono (fun x hx => Nat.lt_of_lt_of_le hx (mono hc ok (Nat.zero_le _) (by omega))) _ I.t0ws) k (fun j hj _ => ?_)
          exact ws_mono (fun x hx => Nat.lt_of_lt_of_le hx (mono hc ok (show j + 1 ≤ k by omega) (by omega))) _ (I.vws j (by omega) (hall j hj)).2
        have hexec2 : execOp a.eval (C.op k) = execOp (evOf ρ (C.t k)) (C.op k) := exec_slots ok hk I.tmps hs1
        rw [hexec2]
        refine aeff_sound hc ra (Evs.mk (ra.globS fun _ hx => hx) htk) hef (fun ρ1 w1 r1 s1 hv1 => ?_)
        exact hnext _ _ _ _ (I.effStep hc ok hk hLk hL2 hL3 hbef hcl r1 s1 hv1)
      · rw [awrite_al_congr hal haev] at haw
        obtain ⟨cs, esz, e1, e2, e3, e4⟩ := al_sound hEv hal haw
        obtain ⟨E, e5⟩ := e4 w
        rw [hexec, e5, Oper.upon_value]
        exact hnext _ _ _ _ (I.alStep hc ok hk hLk hL2 hL3 hbef hcl e1 (wsL_mono (fun x hx => hx.1) _ e2) (wsL_mono (fun x hx => hx.2) _ e2) e3)
end
end Can
end Go.Sx
