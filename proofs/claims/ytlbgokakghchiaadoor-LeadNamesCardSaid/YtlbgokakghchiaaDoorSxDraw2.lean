/- DERIVED, by an AI agent: a part of the engine 'Sx' (a machine over values and numbered objects, proved sound against the model's calls): no condition. No person has read it. -/
import Derived.Test.YtlbgokakghchiaaDoorSxDraw
set_option linter.all false
namespace Go.Sx
open Go Go.RowKit

section
variable {N : Nat} {G : Nat → Option Nat} {P : Program} {call : CallF} {ops : Array Oper} {ρ : Env} {h h' : AHeap} {w : World} {t t' : List AV} {a : Act}

def tAt (rs : List Rec) (t' : List AV) (j : Nat) : List AV := if j < rs.length then (rs.getD j default).t else t'
def hAt (rs : List Rec) (h' : AHeap) (j : Nat) : AHeap := if j < rs.length then (rs.getD j default).h else h'

def StepFact (P : Program) (G : Nat → Option Nat) (call : CallF) (ops : Array Oper) (i : Nat) (r : Rec) (tn : List AV) (hn : AHeap) : Prop :=
  (Region.wanted (ops.getD i default) (ayield ops r.t) = false ∧ r.v = .tuple [] ∧ r.cls = .rd ∧ tn = aput r.t (ops.getD i default).dst r.v ∧ hn = r.h) ∨
  (Region.wanted (ops.getD i default) (ayield ops r.t) = true ∧ aopC P call (aev G r.t) r.h (ops.getD i default) = some (r.cls, r.v, hn) ∧ tn = aput r.t (ops.getD i default).dst r.v)

theorem arunC_spec : ∀ (l : List Nat) (t : List AV) (h : AHeap) (rs : List Rec) (t' : List AV) (h' : AHeap), arunC P G call ops l t h = some (rs, t', h') →
    rs.length = l.length ∧ tAt rs t' 0 = t ∧ hAt rs h' 0 = h ∧ ∀ j, j < l.length → StepFact P G call ops (l.getD j 0) (rs.getD j default) (tAt rs t' (j + 1)) (hAt rs h' (j + 1))
  | [], t, h, rs, t', h', hr => by
    simp only [arunC, Option.some.injEq, Prod.mk.injEq] at hr
    obtain ⟨rfl, rfl, rfl⟩ := hr
    exact ⟨rfl, rfl, rfl, fun j hj => by simp at hj⟩
  | i :: is, t, h, rs, t', h', hr => by
    simp only [arunC] at hr
    have sh : ∀ (r : Rec) (rs' : List Rec) (j : Nat), tAt (r :: rs') t' (j + 1) = tAt rs' t' j ∧ hAt (r :: rs') h' (j + 1) = hAt rs' h' j := by
      intro r rs' j
      unfold tAt hAt
      simp
    split at hr
    · rename_i hw
      split at hr
      · rename_i c v h1 hop
        split at hr
        · rename_i rs1 t1 h2 hrec
          simp only [Option.some.injEq, Prod.mk.injEq] at hr
          obtain ⟨rfl, rfl, rfl⟩ := hr
          obtain ⟨e1, e2, e3, e4⟩ := arunC_spec is _ _ _ _ _ hrec
          refine ⟨by simp [e1], rfl, rfl, ?_⟩
          intro j hj
          rw [(sh _ _ j).1, (sh _ _ j).2]
          cases j with
          | zero => rw [e2, e3]; exact .inr ⟨hw, hop, rfl⟩
          | succ j => exact e4 j (by simpa using hj)
        · cases hr
      · cases hr
    · rename_i hw
      split at hr
      · rename_i rs1 t1 h2 hrec
        simp only [Option.some.injEq, Prod.mk.injEq] at hr
        obtain ⟨rfl, rfl, rfl⟩ := hr
        obtain ⟨e1, e2, e3, e4⟩ := arunC_spec is _ _ _ _ _ hrec
        refine ⟨by simp [e1], rfl, rfl, ?_⟩
        intro j hj
        rw [(sh _ _ j).1, (sh _ _ j).2]
        cases j with
        | zero => rw [e2, e3]; exact .inl ⟨by simpa using hw, rfl, rfl, rfl, rfl⟩
        | succ j => exact e4 j (by simpa using hj)
      · cases hr

/-- our order as a run -/
def canOf (ops : Array Oper) (pi : List Nat) (rs : List Rec) (t' : List AV) (h' : AHeap) : Can where
  ops := ops
  pi := fun k => pi.getD k 0
  bef := fun k m => decide (k < ops.size) && (decide (m < ops.size) && befI ops (pi.getD k 0) (pi.getD m 0))
  cls := fun k => (rs.getD k default).cls
  v := fun k => (rs.getD k default).v
  t := tAt rs t'
  h := hAt rs h'

theorem confl_spec {x y : Oper} (hc : (∃ d, x.dst = some d ∧ (d ∈ y.looksAt ops ∨ y.dst = some d)) ∨ (∃ d, y.dst = some d ∧ d ∈ x.looksAt ops)) : confl ops x y = true := by
  unfold confl
  rcases hc with ⟨d, h1, h2⟩ | ⟨d, h1, h2⟩
  · rw [h1]
    rcases h2 with h2 | h2
    · simp [h2]
    · simp [h2]
  · rw [h1]; simp [h2]

theorem canOf_ok {pi : List Nat} {rs : List Rec} (hst : statOk ops pi = true) (hrun : arunC P G call ops pi t h = some (rs, t', h')) (hchk : chkReads P G ops pi rs = true) :
    (canOf ops pi rs t' h').Ok P G call := by
  obtain ⟨r1, r2, r3, r4⟩ := arunC_spec _ _ _ _ _ _ hrun
  simp only [statOk, Bool.and_eq_true, List.all_eq_true, List.mem_range, beq_iff_eq, decide_eq_true_eq, Bool.or_eq_true, Bool.not_eq_true', List.any_eq_true, beq_eq_false_iff_ne, List.contains_iff_mem] at hst
  obtain ⟨⟨⟨⟨⟨⟨⟨⟨⟨s1, s2⟩, s3⟩, s4⟩, s5⟩, s6⟩, s7⟩, s8⟩, s9⟩, s10⟩ := hst
  have hn : (canOf ops pi rs t' h').n = ops.size := rfl
  have hop : ∀ k, (canOf ops pi rs t' h').op k = ops.getD (pi.getD k 0) default := fun _ => rfl
  have hbef : ∀ k m, (canOf ops pi rs t' h').bef k m = true ↔ k < ops.size ∧ m < ops.size ∧ befI ops (pi.getD k 0) (pi.getD m 0) = true := fun k m => by
    simp [canOf]
  have hinj : ∀ k m, k < ops.size → m < ops.size → pi.getD k 0 = pi.getD m 0 → k = m := by
    intro k m hk hm he
    rcases Nat.lt_trichotomy k m with q | q | q
    · exact absurd he (s4 m hm k q)
    · exact q
    · exact absurd he.symm (s4 k hk m q)
  have hsurj : ∀ i, i < ops.size → ∃ k, k < ops.size ∧ pi.getD k 0 = i := by
    intro i hi
    obtain ⟨k, hk, he⟩ := List.getElem_of_mem (s3 i hi)
    exact ⟨k, by omega, by simp [List.getD_eq_getElem?_getD, List.getElem?_eq_getElem hk, he]⟩
  refine ⟨?_, ?_, ?_, ?_, ?_, ?_, ?_, ?_, ?_, ?_, ?_⟩
  · intro k hk; exact s2 k hk
  · exact hinj
  · exact hsurj
  · intro k m hm hb
    rw [hbef] at hb
    rcases s5 k hb.1 m hb.2.1 with q | q
    · exact q
    · rw [hb.2.2] at q; cases q
  · intro m hm e he hbi
    rcases s6 m hm e (Array.mem_toList_iff.2 he) with q | q
    · rw [hbi] at q; cases q
    · obtain ⟨k, hk, hke⟩ := hsurj e.on q.1
      exact ⟨k, hk, hke, (hbef k m).2 ⟨hk, hm, by rw [hke]; exact q.2⟩⟩
  · intro k m hm hb
    rw [hbef] at hb
    rcases s7 m hm k hb.1 with q | ⟨e, he, q⟩
    · rw [hb.2.2] at q; cases q
    · obtain ⟨⟨q1, q2⟩, q3⟩ := q
      obtain ⟨k', hk', hke⟩ := hsurj e.on q2
      refine ⟨e, Array.mem_toList_iff.1 he, q1, k', hk', hke, ?_⟩
      rcases q3 with q3 | q3
      · exact .inl (hinj k' k hk' hb.1 (by rw [hke, q3]))
      · exact .inr ((hbef k k').2 ⟨hb.1, hk', by rw [hke]; exact q3⟩)
  · intro k m hkm hm hc
    have hm' : m < ops.size := hm
    rcases s8 m hm k hkm with q | q
    · have := confl_spec (ops := ops) (x := ops.getD (pi.getD k 0) default) (y := ops.getD (pi.getD m 0) default) hc
      rw [this] at q; cases q
    · exact (hbef k m).2 ⟨by omega, hm, q⟩
  · intro m hm hcl k hkm
    have hm' : m < ops.size := hm
    have hstat : isEffOp (ops.getD (pi.getD m 0) default).op = true := by
      rcases r4 m (by omega) with ⟨_, _, hc, _⟩ | ⟨_, hc, _⟩
      · have : (rs.getD m default).cls = .eff := hcl
        rw [hc] at this; cases this
      · unfold aopC at hc
        have hcl' : (rs.getD m default).cls = .eff := hcl
        split at hc
        · rw [Option.map_eq_some_iff] at hc
          obtain ⟨q, _, hq⟩ := hc
          simp only [Prod.mk.injEq] at hq
          rw [hcl'] at hq; cases hq.1
        · split at hc
          · assumption
          · rw [Option.map_eq_some_iff] at hc
            obtain ⟨q, _, hq⟩ := hc
            simp only [Prod.mk.injEq] at hq
            rw [hcl'] at hq; cases hq.1
    rcases s9 m hm with q | q
    · rw [hstat] at q; cases q
    · exact (hbef k m).2 ⟨by omega, hm, q k hkm⟩
  · intro m hm cs b he
    have := s10 m hm
    have he' : (ops.getD (pi.getD m 0) default).op = .select cs b := he
    rw [he'] at this; simp [isSelect] at this
  · intro k hk
    have hk' : k < ops.size := hk
    have htk : (canOf ops pi rs t' h').t k = (rs.getD k default).t := if_pos (by omega)
    rcases r4 k (by omega) with ⟨_, _, _, hc, _⟩ | ⟨_, _, hc⟩
    · exact htk ▸ hc
    · exact htk ▸ hc
  · intro k hk
    have hk' : k < ops.size := hk
    have htk : (canOf ops pi rs t' h').t k = (rs.getD k default).t := if_pos (by omega)
    have hhk : (canOf ops pi rs t' h').h k = (rs.getD k default).h := if_pos (by omega)
    rw [htk, hhk]
    show _ ∨ _
    rcases r4 k (by omega) with ⟨hw, hv, hc, _, hh⟩ | ⟨hw, hc, _⟩
    · exact .inl ⟨hw, hv, hh, hc⟩
    · refine .inr ⟨hw, ?_⟩
      unfold aopC at hc
      split at hc
      · rename_i hal
        rw [Option.map_eq_some_iff] at hc
        obtain ⟨q, hq1, hq⟩ := hc
        simp only [Prod.mk.injEq] at hq
        refine .inr (.inr ⟨hq.1.symm, hal, ?_⟩)
        show awrite P _ _ _ = some ((rs.getD k default).v, hAt rs h' (k + 1))
        rw [← hq.2.1, ← hq.2.2]; exact hq1
      · split at hc
        · rw [Option.map_eq_some_iff] at hc
          obtain ⟨q, hq1, hq⟩ := hc
          simp only [Prod.mk.injEq] at hq
          refine .inr (.inl ⟨hq.1.symm, ?_⟩)
          show aeff P call _ _ _ = some ((rs.getD k default).v, hAt rs h' (k + 1))
          rw [← hq.2.1, ← hq.2.2]; exact hq1
        · rw [Option.map_eq_some_iff] at hc
          obtain ⟨q, hq1, hq⟩ := hc
          simp only [Prod.mk.injEq] at hq
          have hrd : (rs.getD k default).cls = .rd := hq.1.symm
          have hq1' : aread P (aev G (rs.getD k default).t) (rs.getD k default).h (ops.getD (pi.getD k 0) default) = some (rs.getD k default).v := by rw [← hq.2.1]; exact hq1
          refine .inl ⟨hrd, hq.2.2.symm, ?_⟩
          intro p hp hps hwin
          by_cases hrh : readsHeap (ops.getD (pi.getD k 0) default).op = true
          · simp only [chkReads, Bool.or_eq_true, List.all_eq_true, decide_eq_true_eq, List.mem_range, Bool.not_eq_true', List.any_eq_true, Bool.and_eq_true, decide_eq_false_iff_not, beq_iff_eq] at hchk
            rcases hchk with hall | hchk
            · -- nothing changes memory: one heap
              have hsame : ∀ j, j ≤ k → (rs.getD j default).h = (rs.getD 0 default).h := by
                intro j
                induction j with
                | zero => intro _; rfl
                | succ j ih =>
                  intro hj
                  rw [← ih (by omega)]
                  have hclj : (rs.getD j default).cls = .rd := hall _ (by
                    rw [List.getD_eq_getElem?_getD, List.getElem?_eq_getElem (show j < rs.length by omega)]
                    exact List.getElem_mem _)
                  have hnx : hAt rs h' (j + 1) = (rs.getD (j + 1) default).h := if_pos (by omega)
                  rcases r4 j (by omega) with ⟨_, _, _, _, hh⟩ | ⟨_, hc2, _⟩
                  · rw [← hnx, hh]
                  · rw [← hnx]
                    unfold aopC at hc2
                    split at hc2
                    · rw [Option.map_eq_some_iff] at hc2
                      obtain ⟨q2, _, hq2⟩ := hc2
                      simp only [Prod.mk.injEq] at hq2
                      rw [hclj] at hq2; cases hq2.1
                    · split at hc2
                      · rw [Option.map_eq_some_iff] at hc2
                        obtain ⟨q2, _, hq2⟩ := hc2
                        simp only [Prod.mk.injEq] at hq2
                        rw [hclj] at hq2; cases hq2.1
                      · rw [Option.map_eq_some_iff] at hc2
                        obtain ⟨q2, _, hq2⟩ := hc2
                        simp only [Prod.mk.injEq] at hq2
                        exact hq2.2.2.symm
              have hhp : (canOf ops pi rs t' h').h p = (rs.getD p default).h := if_pos (by omega)
              rw [hhp, hsame p hp, ← hsame k (Nat.le_refl _)]
              exact hq1'
            · have h1 := hchk k hk'
              rcases h1 with ((h1 | h1) | h1) | h1
              · rw [hrh] at h1; cases h1
              · exact absurd hrd h1
              · rw [hw] at h1; cases h1
              · have h2 := h1 p (by omega)
                rcases h2 with (h2 | h2) | h2
                · exfalso
                  rcases hps with e | e
                  · rw [e] at h2; simp at h2
                  · have : (rs.getD (p - 1) default).cls = .eff := e
                    rw [this] at h2; simp at h2
                · exfalso
                  obtain ⟨m, hm, ⟨hm1, hm2⟩, hm3⟩ := h2
                  have := hwin m hm hm1 ((hbef m k).2 ⟨hm, hk', hm2⟩)
                  omega
                · have hhp : (canOf ops pi rs t' h').h p = (rs.getD p default).h := if_pos (by omega)
                  rw [hhp]
                  unfold oeq at h2
                  split at h2
                  · rename_i y u hy
                    rw [AV.beq_eq _ _ h2] at hy
                    exact hy
                  · cases h2
          · refine Eq.trans ?_ hq1'
            exact aread_free (Bool.eq_false_iff.2 hrh)

/-- A REGION THAT DRAWS ITS ORDER -/
theorem adraw_sound {id : Nat} {Q : Exit → Act → World → Prop} (hm : P.follows .mixedOrders = true) (hc : CallOk P N G call) (r : R N G ρ h w) (x : TR (below h.n) ρ t a)
    (hs : adraw P G call ops t h = some (t', h'))
    (hQ : ∀ ρ' a' w', R N G ρ' h' w' → Stp ρ h w ρ' h' w' → TR (below h'.n) ρ' t' a' → Q .normal a' w') : (Code.region id ops true).wp P Q a w := by
  unfold adraw at hs
  split at hs
  case isFalse => cases hs
  rename_i hst
  split at hs
  case h_2 => cases hs
  rename_i rs t1 h1 hrun
  split at hs
  case isFalse => cases hs
  rename_i hchk
  simp only [Option.some.injEq, Prod.mk.injEq] at hs
  obtain ⟨rfl, rfl⟩ := hs
  have ok := canOf_ok hst hrun hchk
  obtain ⟨e1, e2, e3, e4⟩ := arunC_spec _ _ _ _ _ _ hrun
  have hlen : (plan ops).length = ops.size := by
    have := hst
    simp only [statOk, Bool.and_eq_true, beq_iff_eq] at this
    exact this.1.1.1.1.1.1.1.1.1
  have hend : (canOf ops (plan ops) rs t1 h1).h (canOf ops (plan ops) rs t1 h1).n = h1 ∧ (canOf ops (plan ops) rs t1 h1).t (canOf ops (plan ops) rs t1 h1).n = t1 := by
    constructor
    · exact if_neg (by show ¬ ops.size < rs.length; omega)
    · exact if_neg (by show ¬ ops.size < rs.length; omega)
  refine wp_region_any hm ?_
  have r' : R N G ρ h { w with drawn := w.drawn + 1 } := R.heap_eq (w := w) rfl r
  refine Can.sound (C := canOf ops (plan ops) rs t1 h1) (ρ0 := ρ) (w0 := { w with drawn := w.drawn + 1 }) hc ok ?_ ops.size (Array.replicate ops.size false) a _ 0 ρ (by simp; rfl) ?_ ?_
  · intro ρ' a' w' q1 q2 q3
    rw [hend.1] at q1 q2 q3
    rw [hend.2] at q3
    have h0 : (canOf ops (plan ops) rs t1 h1).h 0 = h := e3
    rw [h0] at q2
    exact hQ ρ' a' w' q1 ((Stp.heap_eq (ρ := ρ) (h := h) (w := w) (w' := { w with drawn := w.drawn + 1 }) rfl rfl rfl rfl).trans q2) q3
  · unfold Can.left
    refine Nat.le_trans (List.length_filter_le _ _) ?_
    simp; exact Nat.le_refl _
  · have h0 : (canOf ops (plan ops) rs t1 h1).h 0 = h := e3
    have t0 : (canOf ops (plan ops) rs t1 h1).t 0 = t := e2
    have hL : ∀ k, (canOf ops (plan ops) rs t1 h1).Lof (Array.replicate ops.size false) k = false := by
      intro k
      unfold Can.Lof
      simp only [Array.getD_eq_getD_getElem?]
      by_cases hk : (canOf ops (plan ops) rs t1 h1).pi k < ops.size
      · simp [hk]
      · simp [hk]
    have hT : (canOf ops (plan ops) rs t1 h1).T ((canOf ops (plan ops) rs t1 h1).Lof (Array.replicate ops.size false)) (canOf ops (plan ops) rs t1 h1).n = t := by
      have : ∀ n, (canOf ops (plan ops) rs t1 h1).T ((canOf ops (plan ops) rs t1 h1).Lof (Array.replicate ops.size false)) n = t := by
        intro n
        induction n with
        | zero => exact t0
        | succ n ih => simp only [Can.T, hL, Bool.false_eq_true, if_false]; exact ih
      exact this _
    refine ⟨Nat.zero_le _, r.base, .inl rfl, ?_, by intro k hk; omega, ?_, by rw [h0]; exact r', by rw [h0]; exact Stp.refl _ _ _, by rw [hT]; exact x.tmps, x.defers, ?_, ?_, ?_, fun k _ => hL k, by rw [h0, t0]; exact x.ws⟩
    · intro k _ _
      rw [hL]; simp
    · intro k m _ _ hm; rw [hL] at hm; cases hm
    · intro k _ hk; rw [hL] at hk; cases hk
    · intro k _ _ _ hk; rw [hL] at hk; cases hk
    · intro k m _ _ _ hk; rw [hL] at hk; cases hk
end
end Go.Sx
