/- DERIVED, by an AI agent: a part of the engine 'Sx' (a machine over values and numbered objects, proved sound against the model's calls): no condition. No person has read it. -/
import Derived.Test.YtlbgokakghchiaaDoorSxCan2
set_option linter.all false
namespace Go.Sx
open Go Go.RowKit
namespace Can
section
variable {C : Can} {N : Nat} {G : Nat → Option Nat} {P : Program} {call : CallF} {ρ0 ρ : Env} {w0 w : World} {L L' : Nat → Bool} {a : Act} {p k : Nat}

theorem Sp_mono (hL : ∀ j, L j = true → L' j = true) : ∀ x, C.Sp L p x → C.Sp L' p x := by
  rintro x (h | ⟨k, h1, h2, h3, h4, h5⟩)
  · exact .inl h
  · exact .inr ⟨k, h1, h2, h3, hL k h4, h5⟩

/-- the slots that an operation looks at are our order's -/
theorem slots (ok : C.Ok P G call) (hk : k < C.n) (hLk : L k = false) (hcl : ∀ k m, m < C.n → C.bef k m = true → L m = true → L k = true)
    (hbef : ∀ j, C.bef j k = true → L j = true) {x : Nat} (hx : x ∈ C.looks k) :
    (C.T L C.n)[x]? = (C.t k)[x]? ∧ (C.T (fun j => L j && decide (j < k)) C.n)[x]? = (C.t k)[x]? := by
  have e1 : C.T (fun j => decide (j < k)) C.n = C.t k := by rw [T_lt C.n (by omega), T_all ok k (by omega)]
  constructor
  · rw [← e1]
    refine (T_congr x C.n (fun j hj hd => ?_)).1
    by_cases h1 : j < k
    · have := hbef j (ok.names j k h1 hk (.inl ⟨x, hd, .inl hx⟩))
      simp [this, h1]
    · by_cases h2 : j = k
      · subst h2; simp [hLk]
      · have hb := ok.names k j (by omega) hj (.inr ⟨x, hd, hx⟩)
        cases hq : L j with
        | false => simp [h1]
        | true => have := hcl k j hj hb hq; rw [hLk] at this; cases this
  · rw [← e1]
    refine (T_congr x C.n (fun j hj hd => ?_)).1
    by_cases h1 : j < k
    · have := hbef j (ok.names j k h1 hk (.inl ⟨x, hd, .inl hx⟩))
      simp [this, h1]
    · simp [h1]

theorem mem_looks {x : Nat} (hx : Operand.tmp x ∈ (C.op k).op.operands) : x ∈ C.looks k := by
  unfold looks Oper.looksAt
  refine List.mem_append.2 (.inl ?_)
  rw [List.mem_filterMap]
  exact ⟨.tmp x, by simpa using hx, rfl⟩

theorem aev_slots {t t' : List AV} (hh : ∀ x, x ∈ C.looks k → t[x]? = t'[x]?) : ∀ x, x ∈ (C.op k).op.operands → aev G t x = aev G t' x := by
  intro x hx
  cases x with
  | tmp y => simp only [aev, List.getD_eq_getElem?_getD, hh y (mem_looks hx)]
  | _ => rfl

theorem exec_slots (ok : C.Ok P G call) (hk : k < C.n) {t t' : List AV} {a : Act} (ha : a.tmps = (AV.denL ρ t).toArray) (hh : ∀ x, x ∈ C.looks k → t[x]? = t'[x]?) :
    execOp a.eval (C.op k) = execOp (evOf ρ t') (C.op k) := by
  refine execOp_congr _ (ok.nosel k hk) (fun x hx => ?_)
  cases x with
  | tmp y =>
    simp only [Act.eval, evOf, ha, getD_den, List.getD_eq_getElem?_getD, hh y (mem_looks hx)]
  | _ => rfl

theorem wanted_slots {t t' : List AV} (hh : ∀ x, x ∈ C.looks k → t[x]? = t'[x]?) : Region.wanted (C.op k) (ayield C.ops t) = Region.wanted (C.op k) (ayield C.ops t') := by
  unfold Region.wanted
  cases hg : (C.op k).guard with
  | none => rfl
  | some g =>
    obtain ⟨j, b⟩ := g
    simp only
    congr 1
    unfold ayield
    cases hd : (C.ops[j]?).bind (·.dst) with
    | none => rfl
    | some d =>
      simp only [Option.bind_some]
      rw [hh d]
      unfold looks Oper.looksAt
      refine List.mem_append.2 (.inr ?_)
      rw [hg]
      simp [hd]

/-- a place is put down as carried out: what does not hang on its kind -/
theorem Inv.tmps' (ok : C.Ok P G call) (I : Inv C N G ρ0 w0 L a w p ρ) (hk : k < C.n) (h1 : L k = false) (h2 : L' k = true) (h3 : ∀ j, j ≠ k → L' j = L j) :
    C.T L' C.n = aput (C.T L C.n) (C.dst k) (C.v k) := by
  refine T_put h1 h2 h3 (fun j hj hL x hx hd => ?_) C.n hk
  have hjn : j < C.n := by
    rcases Nat.lt_or_ge j C.n with q | q
    · exact q
    · exact absurd hL (by rw [I.out j q]; simp)
  have := I.closed k j hjn (ok.names k j hj hjn (.inl ⟨x, hx, .inr hd⟩)) hL
  rw [h1] at this; cases this

theorem Inv.closed' (I : Inv C N G ρ0 w0 L a w p ρ) (h3 : ∀ j, j ≠ k → L' j = L j) (h2 : L' k = true) (hbef : ∀ j, C.bef j k = true → L j = true) :
    ∀ j m, m < C.n → C.bef j m = true → L' m = true → L' j = true := by
  intro j m hm hb hL
  by_cases e : j = k
  · rw [e]; exact h2
  · rw [h3 j e]
    by_cases em : m = k
    · rw [em] at hb; exact hbef j hb
    · rw [h3 m em] at hL; exact I.closed j m hm hb hL

theorem Inv.readStep (ok : C.Ok P G call) (I : Inv C N G ρ0 w0 L a w p ρ) (hk : k < C.n) (h1 : L k = false) (h2 : L' k = true) (h3 : ∀ j, j ≠ k → L' j = L j)
    (hbef : ∀ j, C.bef j k = true → L j = true) (hcl : C.cls k = .rd) (hv1 : (C.v k).ws (C.Sp L p)) (hv2 : (C.v k).ws (below (C.h (k + 1)).n)) :
    Inv C N G ρ0 w0 L' (a.put (C.dst k) ((C.v k).den ρ)) w p ρ := by
  have hmono : ∀ j, L j = true → L' j = true := fun j hj => by
    by_cases e : j = k
    · rw [e]; exact h2
    · rw [h3 j e]; exact hj
  have hT := I.tmps' ok hk h1 h2 h3
  refine ⟨I.pLe, I.w0N, I.start, ?_, fun j hj => hmono j (I.pre j hj), I.closed' h3 h2 hbef, I.r, I.stp, ?_, (by cases C.dst k <;> exact I.defers), ?_, ?_, ?_, ?_, ?_⟩
  · intro j hj hc
    have : j ≠ k := fun e => by rw [e, hcl] at hc; cases hc
    rw [h3 j this]; exact I.eff j hj hc
  · rw [hT]
    cases hd : C.dst k with
    | none => exact I.tmps
    | some d =>
      simp only [Act.put, aput, I.tmps]
      apply Array.ext'
      simp [denL_map, List.map_set]
  · intro j hj hL
    by_cases e : j = k
    · rw [e]; exact ⟨ws_mono (Sp_mono hmono) _ hv1, hv2⟩
    · rw [h3 j e] at hL
      exact ⟨ws_mono (Sp_mono hmono) _ (I.vws j hj hL).1, (I.vws j hj hL).2⟩
  · intro j hpj hj hc hL
    have e : j ≠ k := fun e => by rw [e, hcl] at hc; cases hc
    rw [h3 j e] at hL
    obtain ⟨cs, esz, E, g1, g2, g3, g4, g5, g6, g7, g8⟩ := I.pend j hpj hj hc hL
    exact ⟨cs, esz, E, g1, g2, g3, g4, g5, g6, wsL_mono (Sp_mono hmono) _ g7, g8⟩
  · intro j m hpj hj hcj hLj hpm hm hcm hLm hne
    have e1 : j ≠ k := fun e => by rw [e, hcl] at hcj; cases hcj
    have e2 : m ≠ k := fun e => by rw [e, hcl] at hcm; cases hcm
    rw [h3 j e1] at hLj
    rw [h3 m e2] at hLm
    exact I.pdist j m hpj hj hcj hLj hpm hm hcm hLm hne
  · intro j hj
    have e : j ≠ k := by omega
    rw [h3 j e]; exact I.out j hj
  · exact I.t0ws
end
end Can
end Go.Sx
