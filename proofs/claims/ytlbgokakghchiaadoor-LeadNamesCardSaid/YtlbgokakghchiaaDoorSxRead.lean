/- DERIVED, by an AI agent: a part of the engine 'Sx' (a machine over values and numbered objects, proved sound against the model's calls): no condition. No person has read it. -/
import Derived.Test.YtlbgokakghchiaaDoorSxRel
import Derived.WalkKit
set_option linter.all false
namespace Go.Sx
open Go Go.RowKit

/-! ### operations that read nothing -/
def prun {α : Type} (P : Program) : Sem α → Option α
  | .pure a => some a
  | .program k => prun P (k P)
  | .mark _ k => prun P k
  | _ => none

theorem prun_run {α : Type} {P : Program} : ∀ (s : Sem α) (a : α) (w : World), prun P s = some a → s.run P w = .ok a w
  | .pure a, b, w, h => by simp only [prun, Option.some.injEq] at h; subst h; rfl
  | .program k, b, w, h => by simp only [prun] at h; exact prun_run (k P) b w h
  | .mark _ k, b, w, h => by simp only [prun] at h; exact prun_run k b w h
  | .load .., _, _, h => by simp [prun] at h
  | .store .., _, _, h => by simp [prun] at h
  | .new .., _, _, h => by simp [prun] at h
  | .shape .., _, _, h => by simp [prun] at h
  | .freeze .., _, _, h => by simp [prun] at h
  | .frozen .., _, _, h => by simp [prun] at h
  | .getObj .., _, _, h => by simp [prun] at h
  | .setObj .., _, _, h => by simp [prun] at h
  | .choose .., _, _, h => by simp [prun] at h
  | .sys .., _, _, h => by simp [prun] at h
  | .halt _, _, _, h => by simp [prun] at h

def ρ0 : Env := fun _ => ⟨0, 0, 0⟩

/-- what an operand is -/
def Evs (e : Operand → Option AV) (ev : Operand → Value) (ρ : Env) (n : Nat → Prop) : Prop :=
  ∀ x v, e x = some v → ev x = v.den ρ ∧ v.ws n

def isAggD : TypeDesc → Bool
  | .struct _ | .array _ _ => true
  | _ => false

theorem run_sizeOf {P : Program} {t : TypeId} {i : TypeInfo} (hi : P.info? t = some i) (w : World) : (sizeOf t).run P w = .ok i.size w := by
  simp [sizeOf, typeInfo, hi]
theorem run_isAgg {P : Program} {t : TypeId} {d : TypeDesc} (hd : P.underlying t = some d) (w : World) : (isAgg t).run P w = .ok (isAggD d) w := by
  cases d <;> simp [isAgg, run_underlying hd, isAggD]

def cellsAt (h : AHeap) (i o n : Nat) : Option (List AV) :=
  match h.get i with
  | some (.cells c _ _) => if o + n ≤ c.length then some ((c.drop o).take n) else none
  | _ => none

def cellAt (h : AHeap) (i o : Nat) : Option AV :=
  match h.get i with
  | some (.cells c _ _) => c[o]?
  | _ => none

section
variable {N : Nat} {G : Nat → Option Nat} {ρ : Env} {h : AHeap} {w : World} {P : Program}

theorem R.cell (r : R N G ρ h w) {i : Nat} {c : List AV} {ro : Bool} {esz : Nat} (hi : h.get i = some (.cells c ro esz)) {j : Nat} {v : AV} (hj : c[j]? = some v) :
    w.cell? (pAddr ρ i j) = some (v.den ρ) := by
  have hf := r.fits i _ hi
  cases ro with
  | true => exact hf j v hj
  | false =>
    obtain ⟨cs, E, fz, h1, h2, _, _⟩ := hf
    simp only [World.cell?, pAddr, h1]
    simpa using h2 j v hj

theorem cellAt_sound (r : R N G ρ h w) {i o : Nat} {v : AV} (hc : cellAt h i o = some v) : w.cell? (pAddr ρ i o) = some (v.den ρ) ∧ v.ws (below h.n) := by
  unfold cellAt at hc
  split at hc
  · rename_i c ro esz hi
    exact ⟨r.cell hi hc, wsL_get (r.ws i _ hi) hc⟩
  · cases hc

theorem pAddr_add (ρ : Env) (i o k : Nat) : (pAddr ρ i o).add k = pAddr ρ i (o + k) := by
  unfold Addr.add pAddr
  split
  · rename_i hk; subst hk; rfl
  · simp only [Nat.add_assoc]

theorem cellsAt_sound (r : R N G ρ h w) {i o n : Nat} {vs : List AV} (hc : cellsAt h i o n = some vs) :
    (loadCells (pAddr ρ i o) n).run P w = .ok (AV.denL ρ vs).toArray w ∧ AV.wsL (below h.n) vs ∧ vs.length = n := by
  unfold cellsAt at hc
  split at hc
  · rename_i c ro esz hi
    split at hc
    · rename_i hle
      simp only [Option.some.injEq] at hc
      subst hc
      have hlen : ((c.drop o).take n).length = n := by simp; omega
      refine ⟨?_, ?_, hlen⟩
      · have := run_loadCells_list (P := P) w (pAddr ρ i o) (AV.denL ρ ((c.drop o).take n)) (fun j v hj => by
          rw [denL_map, List.getElem?_map] at hj
          cases hq : ((c.drop o).take n)[j]? with
          | none => simp [hq] at hj
          | some q =>
            simp only [hq, Option.map_some, Option.some.injEq] at hj
            subst hj
            rw [pAddr_add]
            refine r.cell hi ?_
            rw [List.getElem?_take] at hq
            split at hq
            · rwa [List.getElem?_drop] at hq
            · cases hq)
        rw [denL_map, List.length_map, hlen, ← denL_map] at this
        exact this
      · rw [wsL_iff]
        intro v hv
        exact (wsL_iff _ _).1 (r.ws i _ hi) v (List.mem_of_mem_drop (List.mem_of_mem_take hv))
    · cases hc
  · cases hc

def aload (P : Program) (h : AHeap) (t : TypeId) (i o : Nat) : Option AV :=
  match P.underlying t, P.info? t with
  | some d, some inf => if isAggD d then (cellsAt h i o inf.size).map .agg else cellAt h i o
  | _, _ => none

theorem aload_sound (r : R N G ρ h w) {t : TypeId} {i o : Nat} {v : AV} (hc : aload P h t i o = some v) :
    (loadVar t (pAddr ρ i o)).run P w = .ok (v.den ρ) w ∧ v.ws (below h.n) := by
  unfold aload at hc
  split at hc
  · rename_i d inf hd hi
    split at hc
    · rename_i hagg
      cases hv : cellsAt h i o inf.size with
      | none => simp [hv] at hc
      | some vs =>
        simp only [hv, Option.map_some, Option.some.injEq] at hc
        subst hc
        obtain ⟨h1, h2, _⟩ := cellsAt_sound (P := P) r hv
        refine ⟨?_, h2⟩
        simp [loadVar, run_isAgg hd, hagg, run_sizeOf hi, h1, AV.den]
    · rename_i hagg
      obtain ⟨h1, h2⟩ := cellAt_sound r hc
      refine ⟨?_, h2⟩
      simp [loadVar, run_isAgg hd, hagg, h1]
  · cases hc

/-! ### parts of aggregates -/
def apart? (P : Program) (t : TypeId) (cs : List AV) (off : Nat) : Option AV :=
  match P.underlying t, P.info? t with
  | some d, some inf => if isAggD d then some (.agg ((cs.drop off).take inf.size)) else cs[off]?
  | _, _ => none

theorem extract_denL (ρ : Env) (cs : List AV) (off k : Nat) : ((AV.denL ρ cs).toArray.extract off (off + k)) = (AV.denL ρ ((cs.drop off).take k)).toArray := by
  apply Array.ext'
  simp [denL_map, List.map_take, List.map_drop, List.extract_eq_take_drop]

theorem wsL_sub {n : Nat → Prop} {cs : List AV} (hw : AV.wsL n cs) (off k : Nat) : AV.wsL n ((cs.drop off).take k) :=
  (wsL_iff _ _).2 fun v hv => (wsL_iff _ _).1 hw v (List.mem_of_mem_drop (List.mem_of_mem_take hv))

theorem apart?_sound {t : TypeId} {cs : List AV} {off : Nat} {v : AV} {n : Nat → Prop} (hw : AV.wsL n cs) (hc : apart? P t cs off = some v) (w : World) :
    (part t (AV.denL ρ cs).toArray off).run P w = .ok (v.den ρ) w ∧ v.ws n := by
  unfold apart? at hc
  split at hc
  · rename_i d inf hd hi
    split at hc
    · rename_i hagg
      simp only [Option.some.injEq] at hc
      subst hc
      refine ⟨?_, wsL_sub hw _ _⟩
      simp [part, run_isAgg hd, hagg, run_sizeOf hi, AV.den, denL_map, List.map_take, List.map_drop]
    · rename_i hagg
      refine ⟨?_, wsL_get hw hc⟩
      have := denL_get (ρ := ρ) hc
      simp [part, run_isAgg hd, hagg, this]
  · cases hc

/-- put the parts over the zero -/
def afill (place : Nat → Option (Nat × Nat)) (cells : List AV) : List (Nat × AV) → Option (List AV)
  | [] => some cells
  | (i, v) :: rest =>
    match place i with
    | none => none
    | some (off, size) =>
      if v.cells.length ≠ size || off + v.cells.length > cells.length then none
      else afill place (cells.take off ++ v.cells ++ cells.drop (off + v.cells.length)) rest

theorem foldl_put (off : Nat) (vs : List Value) : ∀ (cs : Array Value) (j : Nat), off + j + vs.length ≤ cs.size →
    (vs.zipIdx j).foldl (fun cs (c, j) => cs.setIfInBounds (off + j) c) cs = (cs.toList.take (off + j) ++ vs ++ cs.toList.drop (off + j + vs.length)).toArray := by
  induction vs with
  | nil => intro cs j _; simp
  | cons v vs ih =>
    intro cs j hle
    simp only [List.length_cons] at hle
    simp only [List.zipIdx_cons, List.foldl_cons]
    rw [ih _ _ (by simp; omega)]
    congr 1
    have hlt : off + j < cs.toList.length := by simp; omega
    rw [Array.toList_setIfInBounds]
    rw [show off + (j + 1) = off + j + 1 from rfl]
    rw [List.take_succ_eq_append_getElem (by simp; omega)]
    simp only [List.getElem_set_self, List.length_cons, List.append_assoc, List.singleton_append]
    rw [List.take_set_of_le (Nat.le_refl _)]
    rw [List.drop_set_of_lt (by omega)]
    rw [show off + j + 1 + vs.length = off + j + (vs.length + 1) from by omega]

theorem afill_sound (place : Nat → Option (Nat × Nat)) {n : Nat → Prop} : ∀ (parts : List (Nat × AV)) (cells : List AV) (out : List AV), afill place cells parts = some out →
    (AV.wsL n cells) → (∀ p, p ∈ parts → p.2.ws n) →
    Instr.fill place (AV.denL ρ cells).toArray (parts.map fun p => (p.1, p.2.den ρ)) = some (AV.denL ρ out).toArray ∧ AV.wsL n out
  | [], cells, out, hf, hw, _ => by
    simp only [afill, Option.some.injEq] at hf
    subst hf
    exact ⟨rfl, hw⟩
  | (i, v) :: rest, cells, out, hf, hw, hp => by
    simp only [afill] at hf
    simp only [List.map_cons, Instr.fill]
    cases hpl : place i with
    | none => simp [hpl] at hf
    | some q =>
      obtain ⟨off, size⟩ := q
      simp only [hpl] at hf
      have e1 : (v.den ρ).cells.size = v.cells.length := by rw [den_cells]; simp [denL_map]
      have e2 : (AV.denL ρ cells).toArray.size = cells.length := by simp [denL_map]
      simp only [e1, e2]
      split at hf
      · cases hf
      · rename_i hc
        rw [if_neg hc]
        simp only [Bool.or_eq_true, decide_eq_true_eq, not_or, Nat.not_lt] at hc
        have hws : AV.wsL n (cells.take off ++ v.cells ++ cells.drop (off + v.cells.length)) := by
          rw [wsL_iff]
          intro x hx
          simp only [List.mem_append] at hx
          rcases hx with (hx | hx) | hx
          · exact (wsL_iff _ _).1 hw x (List.mem_of_mem_take hx)
          · exact (wsL_iff _ _).1 (ws_cells v (hp (i, v) (List.mem_cons_self ..))) x hx
          · exact (wsL_iff _ _).1 hw x (List.mem_of_mem_drop hx)
        have ih := afill_sound place rest _ out hf hws (fun p hp' => hp p (List.mem_cons_of_mem _ hp'))
        have e3 : (v.den ρ).cells.zipIdx.foldl (fun cs (c, j) => cs.setIfInBounds (off + j) c) (AV.denL ρ cells).toArray
            = (AV.denL ρ (cells.take off ++ v.cells ++ cells.drop (off + v.cells.length))).toArray := by
          have := foldl_put off (v.den ρ).cells.toList (AV.denL ρ cells).toArray 0 (by
            simp only [Nat.add_zero, e2, Array.length_toList, e1]; omega)
          rw [← Array.foldl_toList, Array.toList_zipIdx, this]
          congr 1
          rw [den_cells]
          simp [denL_map, List.map_take, List.map_drop]
        rw [e3]
        exact ih
end
end Go.Sx
