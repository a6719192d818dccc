/- DERIVED, by an AI agent: a part of the engine 'Sx' (a machine over values and numbered objects, proved sound against the model's calls): no condition. No person has read it. -/
import Derived.Test.YtlbgokakghchiaaDoorSxRun2
set_option linter.all false
namespace Go.Sx
open Go Go.RowKit Go.Conc

section
variable {N : Nat} {G : Nat → Option Nat} {ρ ρ' : Env} {h h' : AHeap} {w w' : World} {P : Program} {call : CallF} {t t' : List AV} {a : Act}
  {Q : Exit → Act → World → Prop} {ov : FuncId → Option (List AV → AHeap → Option (AV × AHeap))}

/-- nothing that was there is written -/
theorem Stp.all (s : Stp ρ h w ρ' h' w') (hro : ∀ i o, h.get i = some o → o.own = false) : Below w.heap.size w w' :=
  ⟨s.os, s.tape, s.output, s.size, fun b hb => s.keep b hb fun ⟨i, o, hi, ho, _⟩ => by rw [hro i o hi] at ho; cases ho⟩

theorem R.kept (r : R N G ρ h w) (hb : Below w.heap.size w w') : R N G ρ h w' ∧ Stp ρ h w ρ h w' := by
  refine ⟨⟨r.lt, r.ws, ?_, r.low, r.high, r.apart, Nat.le_trans r.base hb.size, r.glob⟩, ⟨Ext.refl _ _, Nat.le_refl _, hb.os, hb.tape, hb.output, hb.size, fun b h => .inl h, fun b hb' _ => hb.block b hb'⟩⟩
  intro i o hi
  have hf := r.fits i o hi
  cases o with
  | dead => trivial
  | cells c ro esz =>
    cases ro with
    | true =>
      intro j v hj
      have hl := r.low i _ hi rfl
      have := hf j v hj
      simp only [World.cell?, pAddr] at this ⊢
      rw [hb.block _ (Nat.lt_of_lt_of_le hl r.base)]
      exact this
    | false =>
      have hl := r.block_lt hi (by simp [AObj.own, AObj.live, AObj.ro])
      obtain ⟨cs, E, fz, h1, h2⟩ := hf
      exact ⟨cs, E, fz, by rw [hb.block _ hl]; exact h1, h2⟩
  | map es =>
    have hl := r.block_lt hi rfl
    obtain ⟨ents, clk, h1, h2⟩ := hf
    exact ⟨ents, clk, by rw [hb.block _ hl]; exact h1, h2⟩
  | chan cap buf =>
    have hl := r.block_lt hi rfl
    obtain ⟨s, q, h1⟩ := hf
    exact ⟨s, q, by rw [hb.block _ hl]; exact h1⟩

mutual
theorem closed_ws : ∀ (v : AV), v.closed = true → ∀ S, v.ws S
  | .bool _, _, _ => trivial
  | .int _ _, _, _ => trivial
  | .str _, _, _ => trivial
  | .ptr none, _, _ => trivial
  | .ptr (some _), h, _ => by simp [AV.closed] at h
  | .slice none _ _ _ _, _, _ => trivial
  | .slice (some _) _ _ _ _, h, _ => by simp [AV.closed] at h
  | .map none, _, _ => trivial
  | .map (some _), h, _ => by simp [AV.closed] at h
  | .chan none, _, _ => trivial
  | .chan (some _), h, _ => by simp [AV.closed] at h
  | .func _ a b, h, S => by
    simp only [AV.closed, Bool.and_eq_true] at h
    exact ⟨closedL_ws a h.1 S, closedL_ws b h.2 S⟩
  | .nilFunc, _, _ => trivial
  | .iface _ v, h, S => closed_ws v h S
  | .nilIface, _, _ => trivial
  | .agg l, h, S => closedL_ws l h S
  | .tuple l, h, S => closedL_ws l h S
theorem closedL_ws : ∀ (l : List AV), AV.closedL l = true → ∀ S, AV.wsL S l
  | [], _, _ => trivial
  | v :: vs, h, S => by
    simp only [AV.closedL, Bool.and_eq_true] at h
    exact ⟨closed_ws v h.1 S, closedL_ws vs h.2 S⟩
end

/-! ### a memory that is only read -/
def roFrom (h : AHeap) : List (List AV) → AHeap
  | [] => h
  | c :: cs => roFrom (h.alloc (.cells c true 1)) cs
def roH (objs : List (List AV)) : AHeap := roFrom ⟨0, .leaf⟩ objs

theorem roFrom_n : ∀ (objs : List (List AV)) (h : AHeap), (roFrom h objs).n = h.n + objs.length
  | [], h => rfl
  | c :: cs, h => by rw [roFrom, roFrom_n cs]; simp [AHeap.n_alloc]; omega

theorem roFrom_get : ∀ (objs : List (List AV)) (h : AHeap) (i : Nat), (roFrom h objs).get i = if i < h.n then h.get i else match objs[i - h.n]? with | some c => some (.cells c true 1) | none => h.get i
  | [], h, i => by simp only [roFrom, List.getElem?_nil, ite_self]
  | c :: cs, h, i => by
    rw [roFrom, roFrom_get cs, AHeap.n_alloc]
    by_cases h1 : i < h.n
    · rw [if_pos (by omega), if_pos h1, AHeap.get_alloc_ne _ _ (by omega)]
    · rw [if_neg h1]
      by_cases h2 : i = h.n
      · subst h2
        rw [if_pos (by omega), AHeap.get_alloc_self]
        simp
      · rw [if_neg (by omega), show i - h.n = (i - (h.n + 1)) + 1 by omega, List.getElem?_cons_succ]
        split
        · rfl
        · rename_i hc; exact AHeap.get_alloc_ne _ _ h2

theorem roH_n (objs : List (List AV)) : (roH objs).n = objs.length := by simp [roH, roFrom_n]
theorem roH_get (objs : List (List AV)) (i : Nat) : (roH objs).get i = (objs[i]?).map (.cells · true 1) := by
  unfold roH
  rw [roFrom_get]
  rw [if_neg (Nat.not_lt_zero _)]
  show (match objs[i]? with | some c => some (AObj.cells c true 1) | none => none) = _
  cases objs[i]? <;> rfl

theorem R.ofRo {objs : List (List AV)} (hws : ∀ c ∈ objs, AV.wsL (below objs.length) c) (hfit : ∀ (i : Nat) (c : List AV), objs[i]? = some c → ∀ (j : Nat) v, c[j]? = some v → w.cell? (pAddr ρ i j) = some (v.den ρ))
    (hlow : ∀ i, i < objs.length → (ρ i).b < N) (hN : N ≤ w.heap.size) (hglob : ∀ g i, G g = some i → i < objs.length ∧ (ρ i).b = g ∧ (ρ i).o = 0) : R N G ρ (roH objs) w := by
  have key : ∀ i o, (roH objs).get i = some o → ∃ c, objs[i]? = some c ∧ o = .cells c true 1 := by
    intro i o hi
    rw [roH_get, Option.map_eq_some_iff] at hi
    obtain ⟨c, hc, rfl⟩ := hi
    exact ⟨c, hc, rfl⟩
  refine ⟨?_, ?_, ?_, ?_, ?_, ?_, hN, by rw [roH_n]; exact hglob⟩
  · intro i o hi
    obtain ⟨c, hc, _⟩ := key i o hi
    rw [roH_n]; exact (List.getElem?_eq_some_iff.1 hc).1
  · intro i o hi
    obtain ⟨c, hc, rfl⟩ := key i o hi
    rw [roH_n]; exact hws c (List.mem_of_getElem? hc)
  · intro i o hi
    obtain ⟨c, hc, rfl⟩ := key i o hi
    exact hfit i c hc
  · intro i o hi _
    obtain ⟨c, hc, rfl⟩ := key i o hi
    exact hlow i (List.getElem?_eq_some_iff.1 hc).1
  · intro i o hi ho
    obtain ⟨c, hc, rfl⟩ := key i o hi
    simp [AObj.own, AObj.live, AObj.ro] at ho
  · intro i j o p hi hj _ ho
    obtain ⟨c, hc, rfl⟩ := key i o hi
    simp [AObj.own, AObj.live, AObj.ro] at ho

theorem roH_own (objs : List (List AV)) : ∀ i o, (roH objs).get i = some o → o.own = false := by
  intro i o hi
  rw [roH_get, Option.map_eq_some_iff] at hi
  obtain ⟨c, hc, rfl⟩ := hi
  simp [AObj.own, AObj.live, AObj.ro]

/-- A LAW, from the machine's answer -/
theorem law_of_run {objs : List (List AV)} {f : FuncId} {args : List AV} {b : Bool} {h1 : AHeap} (hc : CallOk P N G call) (r : R N G ρ (roH objs) w) (hw : AV.wsL (below objs.length) args)
    (hrun : call f args (roH objs) = some (.bool b, h1)) :
    Calls P f (AV.denL ρ args).toArray w fun e w' => e = .returned (.bool b) ∧ Below w.heap.size w w' := by
  refine (hc.sound f args _ _ _ hrun ρ w r (by rw [roH_n]; exact hw)).mono ?_
  rintro e w' ⟨ρ', rfl, _, s, _⟩
  exact ⟨rfl, s.all (roH_own objs)⟩

/-! ### a closed call, once run -/
def hasRo (objs : List (List AV)) (h : AHeap) : Bool :=
  (List.range objs.length).all fun i => match h.get i with
    | some (.cells c true _) => AV.beqL c (objs.getD i [])
    | _ => false

def ovClosed (objs : List (List AV)) (v : AV) (args : List AV) (h : AHeap) : Option (AV × AHeap) :=
  match args with
  | [] => if hasRo objs h then some (v, h) else none
  | _ => none

theorem CallOk.closed {objs : List (List AV)} {f : FuncId} {v : AV} {h1 : AHeap} (hc : CallOk P N G call) (hG : ∀ g i, G g = some i → i < objs.length)
    (hcl : ∀ c ∈ objs, ∀ v ∈ c, v.closed = true) (hv : v.closed = true) (hrun : call f [] (roH objs) = some (v, h1)) :
    CallOk P N G (fun f' args h => if f' = f then ovClosed objs v args h else none) := by
  have key : ∀ f' args h u h', (if f' = f then ovClosed objs v args h else none) = some (u, h') → f' = f ∧ args = [] ∧ u = v ∧ h' = h ∧ hasRo objs h = true := by
    intro f' args h u h' hs
    split at hs
    · rename_i hf
      unfold ovClosed at hs
      split at hs
      · split at hs
        · rename_i hh
          simp only [Option.some.injEq, Prod.mk.injEq] at hs
          exact ⟨hf, rfl, hs.1.symm, hs.2.symm, hh⟩
        · cases hs
      · cases hs
    · cases hs
  constructor
  · intro f' args h u h' hs
    obtain ⟨_, _, _, rfl, _⟩ := key _ _ _ _ _ hs
    exact Nat.le_refl _
  · intro f' args h u h' hs ρ w r hw
    obtain ⟨rfl, rfl, rfl, rfl, hh⟩ := key _ _ _ _ _ hs
    have hget : ∀ (i : Nat) (c : List AV), objs[i]? = some c → ∃ e, h'.get i = some (.cells c true e) := by
      intro i c hi
      have hlt := (List.getElem?_eq_some_iff.1 hi).1
      have := List.all_eq_true.1 hh i (List.mem_range.2 hlt)
      split at this
      · rename_i c' e hg
        have := AV.beqL_eq _ _ this
        rw [List.getD_eq_getElem?_getD, hi] at this
        exact ⟨e, by rw [hg, this]; rfl⟩
      · cases this
    have r0 : R N G ρ (roH objs) w := by
      refine R.ofRo ?_ ?_ ?_ r.base ?_
      · intro c hc
        rw [wsL_iff]
        intro v hv
        exact closed_ws v (hcl c hc v hv) _
      · intro i c hi j v hj
        obtain ⟨e, hg⟩ := hget i c hi
        exact r.fits i _ hg j v hj
      · intro i hi
        obtain ⟨e, hg⟩ := hget i _ (List.getElem?_eq_getElem hi)
        exact r.low i _ hg rfl
      · intro g i hg
        exact ⟨hG g i hg, (r.glob g i hg).2⟩
    refine (hc.sound f' [] _ _ _ hrun ρ w r0 trivial).mono ?_
    rintro e w' ⟨ρ', rfl, _, s, _⟩
    obtain ⟨k1, k2⟩ := r.kept (s.all (roH_own objs))
    exact ⟨ρ, by rw [den_closed ρ' ρ u hv], k1, k2, closed_ws u hv _⟩
end
end Go.Sx
