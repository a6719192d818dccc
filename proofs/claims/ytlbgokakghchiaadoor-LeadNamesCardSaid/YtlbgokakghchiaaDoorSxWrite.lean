/- DERIVED, by an AI agent: a part of the engine 'Sx' (a machine over values and numbered objects, proved sound against the model's calls): no condition. No person has read it. -/
import Derived.Test.YtlbgokakghchiaaDoorSxReadOk3
set_option linter.all false
namespace Go.Sx
open Go Go.RowKit

/-- the world with one block replaced -/
def wset (w : World) (b : Nat) (o : Obj) : World := { w with heap := w.heap.setIfInBounds b o }

theorem wset_wset (w : World) (b : Nat) (o o' : Obj) : wset (wset w b o) b o' = wset w b o' := by
  simp [wset]
theorem wset_get (w : World) (b : Nat) (o : Obj) (hb : b < w.heap.size) : (wset w b o).heap[b]? = some o := by
  simp [wset, hb]
theorem wset_ne (w : World) {b b' : Nat} (o : Obj) (hb : b' ≠ b) : (wset w b o).heap[b']? = w.heap[b']? := by
  simp [wset, Array.getElem?_setIfInBounds_ne (Ne.symm hb)]
theorem wset_size (w : World) (b : Nat) (o : Obj) : (wset w b o).heap.size = w.heap.size := by simp [wset]
theorem wset_self (w : World) (b : Nat) (o : Obj) (h : w.heap[b]? = some o) : wset w b o = w := by
  unfold wset
  have : w.heap.setIfInBounds b o = w.heap := by
    apply Array.ext_getElem?
    intro i
    by_cases e : i = b
    · subst e
      have := (Array.getElem?_eq_some_iff.1 h).1
      rw [Array.getElem?_setIfInBounds_self_of_lt this, h]
    · rw [Array.getElem?_setIfInBounds_ne (Ne.symm e)]
  rw [this]

theorem setCell_wset (w : World) (b x : Nat) (v : Value) {cs : Array Value} {E : TypeId} {fz : Nat × Nat} (h : w.heap[b]? = some (.cells cs E fz)) :
    w.setCell ⟨b, x, none⟩ v = wset w b (.cells (cs.setIfInBounds x v) E fz) := by
  unfold World.setCell wset
  congr 1
  apply Array.ext_getElem?
  intro i
  rw [Array.getElem?_modify]
  by_cases e : b = i
  · subst e
    have hlt := (Array.getElem?_eq_some_iff.1 h).1
    rw [if_pos rfl, Array.getElem?_setIfInBounds_self_of_lt hlt, h]
    rfl
  · rw [if_neg e, Array.getElem?_setIfInBounds_ne e]

def splice {α : Type} (l : List α) (k : Nat) (vs : List α) : List α := l.take k ++ vs ++ l.drop (k + vs.length)

theorem splice_length {α : Type} (l : List α) (k : Nat) (vs : List α) (h : k + vs.length ≤ l.length) : (splice l k vs).length = l.length := by
  simp [splice]; omega

theorem splice_map {α β : Type} (f : α → β) (l : List α) (k : Nat) (vs : List α) : (splice l k vs).map f = splice (l.map f) k (vs.map f) := by
  simp [splice, List.map_take, List.map_drop]

theorem splice_get {α : Type} (l : List α) (k : Nat) (vs : List α) (h : k + vs.length ≤ l.length) (j : Nat) :
    (splice l k vs)[j]? = if j < k then l[j]? else if j < k + vs.length then vs[j - k]? else l[j]? := by
  unfold splice
  have hk : (l.take k).length = k := by simp; omega
  by_cases h1 : j < k
  · rw [if_pos h1, List.append_assoc, List.getElem?_append_left (by omega), List.getElem?_take_of_lt h1]
  · rw [if_neg h1]
    by_cases h2 : j < k + vs.length
    · rw [if_pos h2, List.append_assoc, List.getElem?_append_right (by omega), List.getElem?_append_left (by omega), hk]
    · rw [if_neg h2, List.getElem?_append_right (by simp; omega), List.getElem?_drop]
      congr 1
      simp; omega

theorem run_storeCells_blk (P : Program) (b o : Nat) (E : TypeId) (fz : Nat × Nat) : ∀ (vs : List Value) (i : Nat) (cs : Array Value) (w : World),
    w.heap[b]? = some (.cells cs E fz) → o + i + vs.length ≤ cs.size → (∀ x, x < cs.size → ¬ (fz.1 ≤ x ∧ x < fz.2)) → (∀ v, v ∈ vs → v.oneCell' = true) →
    (storeCells ⟨b, o, none⟩ vs i).run P w = .ok () (wset w b (.cells (splice cs.toList (o + i) vs).toArray E fz))
  | [], i, cs, w, h, _, _, _ => by
    have : splice cs.toList (o + i) [] = cs.toList := by simp [splice]
    simp only [storeCells, Sem.run_pure, this]
    rw [wset_self]
    simpa using h
  | v :: vs, i, cs, w, h, hle, hfz, hone => by
    simp only [List.length_cons] at hle
    have ha : (⟨b, o, none⟩ : Addr).add i = ⟨b, o + i, none⟩ := by
      unfold Addr.add; split
      · rename_i h0; subst h0; rfl
      · rfl
    have hcell : ∃ u, w.cell? ⟨b, o + i, none⟩ = some u := by
      refine ⟨cs[o + i]'(by omega), ?_⟩
      simp only [World.cell?, h]
      simp [Array.getElem?_eq_getElem (show o + i < cs.size by omega)]
    obtain ⟨u, hu⟩ := hcell
    have hfr : w.frozen? ⟨b, o + i, none⟩ = false := by
      simp only [World.frozen?, h]
      have := hfz (o + i) (by omega)
      simp only [Bool.and_eq_false_iff, decide_eq_false_iff_not]
      by_cases q : fz.1 ≤ o + i
      · exact .inr (fun q2 => this ⟨q, q2⟩)
      · exact .inl q
    have hv := hone v (List.mem_cons_self ..)
    simp only [storeCells, ha, Sem.run_bind, run_store P w ⟨b, o + i, none⟩ v .plain hv, hu, hfr, Bool.false_eq_true, if_false, Result.andThen_ok]
    rw [setCell_wset w b (o + i) v h]
    have hb := (Array.getElem?_eq_some_iff.1 h).1
    rw [run_storeCells_blk P b o E fz vs (i + 1) (cs.setIfInBounds (o + i) v) _ (wset_get _ _ _ hb) (by simp; omega) (by simpa using hfz) (fun x hx => hone x (List.mem_cons_of_mem _ hx)), wset_wset]
    congr 3
    apply Array.ext'
    simp only [List.toList_toArray, Array.toList_setIfInBounds]
    apply List.ext_getElem?
    intro j
    rw [splice_get _ _ _ (by simp; omega), splice_get _ _ _ (by simp; omega)]
    simp only [List.length_cons]
    by_cases h1 : j < o + i
    · rw [if_pos (by omega), if_pos h1, List.getElem?_set_ne (by omega)]
    · rw [if_neg h1]
      by_cases h2 : j = o + i
      · subst h2
        rw [if_pos (by omega), if_pos (by omega)]
        simp
        rw [List.getElem?_set_self (by simp; omega)]
      · rw [if_neg (by omega)]
        by_cases h3 : j < o + (i + 1) + vs.length
        · rw [if_pos h3, if_pos (by omega)]
          rw [show j - (o + i) = (j - (o + (i + 1))) + 1 by omega]
          simp
        · rw [if_neg h3, if_neg (by omega), List.getElem?_set_ne (by omega)]

theorem den_one (ρ : Env) {v : AV} (h : v.leaf = true) : (v.den ρ).oneCell' = true := by
  obtain ⟨h1, h2⟩ := den_leaf ρ v h
  cases hd : v.den ρ <;> first | rfl | (exact absurd hd (h1 _)) | (exact absurd hd (h2 _))

/-- write cells of an owned object -/
def aput? (h : AHeap) (i off : Nat) (vs : List AV) : Option AHeap :=
  match h.get i with
  | some (.cells c false esz) => if off + vs.length ≤ c.length ∧ vs.all AV.leaf = true then some (h.set i (.cells (splice c off vs) false esz)) else none
  | _ => none

section
variable {N : Nat} {G : Nat → Option Nat} {ρ : Env} {h h' : AHeap} {w : World} {P : Program}

theorem aput?_sound (r : R N G ρ h w) {i off : Nat} {vs : List AV} (hw : AV.wsL (below h.n) vs) (hs : aput? h i off vs = some h') :
    ∃ w', (storeCells (pAddr ρ i off) (AV.denL ρ vs)).run P w = .ok () w' ∧ R N G ρ h' w' ∧ Stp ρ h w ρ h' w' := by
  unfold aput? at hs
  split at hs
  case h_2 => cases hs
  rename_i c esz hi
  split at hs
  case isFalse => cases hs
  rename_i hc
  obtain ⟨hle, hleaf⟩ := hc
  simp only [Option.some.injEq] at hs
  subst hs
  obtain ⟨cs, E, fz, g1, g2, g3, g4⟩ := r.fits i _ hi
  have hb := (Array.getElem?_eq_some_iff.1 g1).1
  have hlen : (AV.denL ρ vs).length = vs.length := by simp [denL_map]
  have hrun := run_storeCells_blk P (ρ i).b ((ρ i).o + off) E fz (AV.denL ρ vs) 0 cs w g1 (by rw [hlen]; omega) g4 (fun v hv => by
    rw [denL_map, List.mem_map] at hv
    obtain ⟨u, hu, rfl⟩ := hv
    exact den_one ρ (List.all_eq_true.1 hleaf u hu))
  refine ⟨_, hrun, ?_⟩
  refine r.set hi rfl rfl ?_ (fun b hne => wset_ne _ _ hne) (wset_size _ _ _) rfl rfl rfl ?_
  · show AV.wsL (below h.n) (splice c off vs)
    rw [wsL_iff]
    intro v hv
    simp only [splice, List.mem_append] at hv
    rcases hv with (hv | hv) | hv
    · exact (wsL_iff _ _).1 (r.ws i _ hi) v (List.mem_of_mem_take hv)
    · exact (wsL_iff _ _).1 hw v hv
    · exact (wsL_iff _ _).1 (r.ws i _ hi) v (List.mem_of_mem_drop hv)
  · refine ⟨_, E, fz, wset_get _ _ _ hb, ?_, ?_, ?_⟩
    · intro j v hj
      have hle2 : off + vs.length ≤ c.length := hle
      rw [splice_get _ _ _ hle2] at hj
      simp only [List.getElem?_toArray, Nat.add_zero]
      rw [splice_get _ _ _ (by rw [hlen]; simp; omega), hlen]
      by_cases h1 : j < off
      · rw [if_pos h1] at hj
        rw [if_pos (by omega)]
        simpa using g2 j v hj
      · rw [if_neg h1] at hj
        rw [if_neg (by omega)]
        by_cases h2 : j < off + vs.length
        · rw [if_pos h2] at hj
          rw [if_pos (by omega), show (ρ i).o + j - ((ρ i).o + off) = j - off by omega]
          exact denL_get hj
        · rw [if_neg h2] at hj
          rw [if_neg (by omega)]
          simpa using g2 j v hj
    · rw [splice_length _ _ _ hle]
      simp only [Nat.add_zero, List.size_toArray]
      rw [splice_length _ _ _ (by rw [hlen]; simp; omega)]
      simpa using g3
    · simp only [List.size_toArray]
      rw [splice_length _ _ _ (by rw [hlen]; simp; omega)]
      simpa using g4
end
end Go.Sx
