/- DERIVED, by an AI agent: a part of the engine 'Sx' (a machine over values and numbered objects, proved sound against the model's calls): no condition. No person has read it. -/
import Derived.Test.YtlbgokakghchiaaDoorSxCan4
set_option linter.all false
namespace Go.Sx
open Go Go.RowKit
namespace Can
section
variable {C : Can} {N : Nat} {G : Nat → Option Nat} {P : Program} {call : CallF} {ρ0 ρ : Env} {w0 w : World} {a : Act} {p k : Nat}

def Lof (C : Can) (listed : Array Bool) : Nat → Bool := fun k => decide (k < C.n) && listed.getD (C.pi k) false

def left (C : Can) (listed : Array Bool) : Nat := ((List.range C.n).filter fun i => !listed.getD i false).length

mutual
theorem _root_.Go.Sx.ws_and {S S' : Nat → Prop} : ∀ {v : AV}, v.ws S → v.ws S' → v.ws (fun x => S x ∧ S' x)
  | .bool _, _, _ => trivial
  | .int _ _, _, _ => trivial
  | .str _, _, _ => trivial
  | .ptr none, _, _ => trivial
  | .ptr (some (_, _)), h, h' => ⟨h, h'⟩
  | .slice none _ _ _ _, _, _ => trivial
  | .slice (some (_, _)) _ _ _ _, h, h' => ⟨h, h'⟩
  | .map none, _, _ => trivial
  | .map (some _), h, h' => ⟨h, h'⟩
  | .chan none, _, _ => trivial
  | .chan (some _), h, h' => ⟨h, h'⟩
  | .func _ _ _, h, h' => ⟨Go.Sx.wsL_and h.1 h'.1, Go.Sx.wsL_and h.2 h'.2⟩
  | .nilFunc, _, _ => trivial
  | .iface _ v, h, h' => Go.Sx.ws_and (v := v) h h'
  | .nilIface, _, _ => trivial
  | .agg _, h, h' => Go.Sx.wsL_and h h'
  | .tuple _, h, h' => Go.Sx.wsL_and h h'
theorem _root_.Go.Sx.wsL_and {S S' : Nat → Prop} : ∀ {l : List AV}, AV.wsL S l → AV.wsL S' l → AV.wsL (fun x => S x ∧ S' x) l
  | [], _, _ => trivial
  | _ :: _, h, h' => ⟨Go.Sx.ws_and h.1 h'.1, Go.Sx.wsL_and h.2 h'.2⟩
end

theorem op_get (ok : C.Ok P G call) (hk : k < C.n) : C.ops[C.pi k]? = some (C.op k) := by
  have := ok.piLt k hk
  unfold op
  rw [Array.getD_eq_getD_getElem?]
  have h2 : C.pi k < C.ops.size := this
  rw [Array.getElem?_eq_getElem h2]
  rfl

theorem left_set {listed : Array Bool} {i : Nat} (hs : listed.size = C.n) (hi : i < C.n) (hl : listed.getD i false = false) :
    C.left (listed.setIfInBounds i true) < C.left listed := by
  unfold left
  have h1 : ((List.range C.n).filter fun j => !(listed.setIfInBounds i true).getD j false) = ((List.range C.n).filter fun j => !listed.getD j false).filter fun j => decide (j ≠ i) := by
    rw [List.filter_filter]
    apply List.filter_congr
    intro j hj
    by_cases e : i = j
    · subst e
      have : (listed.setIfInBounds i true).getD i false = true := by
        simp only [Array.getD_eq_getD_getElem?]
        rw [Array.getElem?_setIfInBounds_self_of_lt (by omega)]; rfl
      simp [this]
    · rw [getD_set_ne false e]
      have : j ≠ i := fun q => e q.symm
      simp [this]
  rw [h1]
  refine Nat.lt_of_le_of_ne (List.length_filter_le _ _) (fun e => ?_)
  have := List.length_filter_eq_length_iff.1 e i (by rw [List.mem_filter]; exact ⟨List.mem_range.2 hi, by simp [hl]⟩)
  simp at this

theorem Lof_set {listed : Array Bool} (ok : C.Ok P G call) (hs : listed.size = C.n) (hk : k < C.n) :
    C.Lof (listed.setIfInBounds (C.pi k) true) k = true ∧ ∀ j, j ≠ k → C.Lof (listed.setIfInBounds (C.pi k) true) j = C.Lof listed j := by
  have hp := ok.piLt k hk
  constructor
  · unfold Lof
    simp only [hk, decide_true, Bool.true_and, Array.getD_eq_getD_getElem?]
    rw [Array.getElem?_setIfInBounds_self_of_lt (by omega)]; rfl
  · intro j hj
    unfold Lof
    by_cases hjn : j < C.n
    · rw [getD_set_ne false (fun e => hj (ok.piInj j k hjn hk e.symm))]
    · simp [hjn]

theorem sound {Q : Exit → Act → World → Prop} (hc : CallOk P N G call) (ok : C.Ok P G call)
    (hQ : ∀ ρ' a' w', R N G ρ' (C.h C.n) w' → Stp ρ0 (C.h 0) w0 ρ' (C.h C.n) w' → TR (below (C.h C.n).n) ρ' (C.t C.n) a' → Q .normal a' w') :
    ∀ (fuel : Nat) (listed : Array Bool) (a : Act) (w : World) (p : Nat) (ρ : Env), listed.size = C.n → C.left listed ≤ fuel → Inv C N G ρ0 w0 (C.Lof listed) a w p ρ →
      wpAny P .any C.ops Q fuel listed a w := by
  -- where nothing may come up, all have come up
  have hdone : ∀ (listed : Array Bool) (a : Act) (w : World) (p : Nat) (ρ : Env), listed.size = C.n → Inv C N G ρ0 w0 (C.Lof listed) a w p ρ → Region.ready .any C.ops listed = [] → Q .normal a w := by
    intro listed a w p ρ hs I hr
    have hall : ∀ k, k < C.n → C.Lof listed k = true := by
      intro k
      induction k using Nat.strongRecOn with
      | _ k ih =>
        intro hk
        cases hq : C.Lof listed k with
        | true => rfl
        | false =>
          exfalso
          have hmem : C.pi k ∈ Region.ready .any C.ops listed := by
            rw [mem_ready]
            have hl : listed.getD (C.pi k) false = false := by simpa [Lof, hk] using hq
            refine ⟨?_, C.op k, op_get ok hk, ?_⟩
            · have := ok.piLt k hk
              simp only [Array.getD_eq_getD_getElem?] at hl ⊢
              have h2 : C.pi k < listed.size := by omega
              rw [Array.getElem?_eq_getElem h2] at hl ⊢
              exact hl
            · intro e he hb
              obtain ⟨j, hj, hpj, hbj⟩ := ok.edge k hk e he hb
              have := ih j (ok.befLt j k hk hbj) hj
              rw [← hpj]; simpa [Lof, hj] using this
          rw [hr] at hmem; cases hmem
    obtain ⟨ra, sa, _⟩ := absorb hc ok I C.n I.pLe (Nat.le_refl _) (fun k _ hk => hall k hk)
    have hT : C.T (C.Lof listed) C.n = C.t C.n := by
      rw [← T_all ok C.n (Nat.le_refl _)]
      apply List.ext_getElem?
      intro x
      exact (T_congr x C.n (fun k hk _ => hall k hk)).1
    refine hQ ρ a w ra sa ⟨by rw [I.tmps, hT], I.defers, ?_⟩
    rw [← hT]
    exact T_ws (wsL_mono (fun _ hx => Nat.lt_of_lt_of_le hx (mono hc ok (Nat.zero_le _) (Nat.le_refl _))) _ I.t0ws) C.n
      (fun k hk hL => ws_mono (fun _ hx => Nat.lt_of_lt_of_le hx (mono hc ok (by omega) (Nat.le_refl _))) _ (I.vws k hk hL).2)
  intro fuel
  induction fuel with
  | zero =>
    intro listed a w p ρ hs hf I
    have hr : Region.ready .any C.ops listed = [] := by
      unfold left at hf
      have h0 := List.eq_nil_of_length_eq_zero (Nat.le_zero.1 hf)
      cases hq : Region.ready .any C.ops listed with
      | nil => rfl
      | cons i rs =>
        have hm : i ∈ Region.ready .any C.ops listed := by rw [hq]; exact List.mem_cons_self ..
        rw [mem_ready] at hm
        obtain ⟨h1, o, ho, _⟩ := hm
        have hi : i < C.n := (Array.getElem?_eq_some_iff.1 ho).1
        have : i ∈ (List.range C.n).filter fun i => !listed.getD i false := by
          rw [List.mem_filter]
          refine ⟨List.mem_range.2 hi, ?_⟩
          simp only [Array.getD_eq_getD_getElem?] at h1 ⊢
          have h2 : i < listed.size := by omega
          rw [Array.getElem?_eq_getElem h2] at h1 ⊢
          simp only [Option.getD_some] at h1 ⊢
          simp [h1]
        rw [h0] at this; cases this
    exact ⟨hr, hdone listed a w p ρ hs I hr⟩
  | succ fuel ih =>
    intro listed a w p ρ hs hf I
    refine ⟨hdone listed a w p ρ hs I, fun i hi => ?_⟩
    rw [mem_ready] at hi
    obtain ⟨hl, o, ho, hpre⟩ := hi
    have hin : i < C.n := (Array.getElem?_eq_some_iff.1 ho).1
    obtain ⟨k, hk, rfl⟩ := ok.piSurj i hin
    have hok := op_get ok hk
    have hoe : o = C.op k := by rw [hok] at ho; exact (Option.some.inj ho).symm
    subst hoe
    have hlf : listed.getD (C.pi k) false = false := by
      simp only [Array.getD_eq_getD_getElem?] at hl ⊢
      have h2 : C.pi k < listed.size := by omega
      rw [Array.getElem?_eq_getElem h2] at hl ⊢
      exact hl
    have hLk : C.Lof listed k = false := by simp [Lof, hlf]
    have hbef : ∀ j, C.bef j k = true → C.Lof listed j = true := by
      intro j hb
      obtain ⟨e, he, hbi, k', hk', hpk', hor⟩ := ok.just j k hk hb
      have hlk' : C.Lof listed k' = true := by
        have := hpre e he hbi
        rw [← hpk'] at this
        simp [Lof, hk', this]
      rcases hor with rfl | hbk
      · exact hlk'
      · exact I.closed j k' hk' hbk hlk'
    obtain ⟨hL2, hL3⟩ := Lof_set (listed := listed) ok hs hk
    have hsl := fun {x : Nat} (hx : x ∈ C.looks k) => slots (C := C) (L := C.Lof listed) ok hk hLk I.closed hbef hx
    have hs1 : ∀ x, x ∈ C.looks k → (C.T (C.Lof listed) C.n)[x]? = (C.t k)[x]? := fun x hx => (hsl hx).1
    have hs2 : ∀ x, x ∈ C.looks k → (C.T (fun j => C.Lof listed j && decide (j < k)) C.n)[x]? = (C.t k)[x]? := fun x hx => (hsl hx).2
    have hs12 : ∀ x, x ∈ C.looks k → (C.T (C.Lof listed) C.n)[x]? = (C.T (fun j => C.Lof listed j && decide (j < k)) C.n)[x]? := fun x hx => by rw [hs1 x hx, hs2 x hx]
    have hwant : Region.wanted (C.op k) (yielded C.ops a.tmps) = Region.wanted (C.op k) (ayield C.ops (C.t k)) := by
      rw [I.tmps, wanted_eq, wanted_slots hs1]
    have hnext : ∀ a' w' p' ρ', Inv C N G ρ0 w0 (C.Lof (listed.setIfInBounds (C.pi k) true)) a' w' p' ρ' → wpAny P .any C.ops Q fuel (listed.setIfInBounds (C.pi k) true) a' w' :=
      fun a' w' p' ρ' I' => ih _ a' w' p' ρ' (by simpa using hs) (by have := left_set (C := C) hs hin hlf; omega) I'
    have hpk := I.le hc ok hLk hk
    -- the ids of what it may look at
    let S : Nat → Prop := fun x => C.Sp (C.Lof listed) p x ∧ x < (C.h k).n
    have hlow : ∀ x, x < (C.h p).n → S x := fun x hx => ⟨.inl hx, Nat.lt_of_lt_of_le hx (mono hc ok hpk (by omega))⟩
    have hTws : AV.wsL S (C.T (fun j => C.Lof listed j && decide (j < k)) C.n) := by
      refine T_ws (wsL_mono (fun x hx => hlow x (Nat.lt_of_lt_of_le hx I.stp.n)) _ I.t0ws) C.n (fun j hj hL => ?_)
      simp only [Bool.and_eq_true, decide_eq_true_eq] at hL
      have hv := I.vws j hj hL.1
      have hm := mono hc ok (show j + 1 ≤ k by omega) (by omega)
      exact ws_and hv.1 (ws_mono (fun x hx => Nat.lt_of_lt_of_le hx hm) _ hv.2)
    have hEv : Evs (aev G (C.T (fun j => C.Lof listed j && decide (j < k)) C.n)) (evOf ρ (C.T (fun j => C.Lof listed j && decide (j < k)) C.n)) ρ S :=
      Evs.mk (I.r.globS hlow) hTws
    have hexec : execOp a.eval (C.op k) = execOp (evOf ρ (C.T (fun j => C.Lof listed j && decide (j < k)) C.n)) (C.op k) := exec_slots ok hk I.tmps hs12
    have haev : ∀ x, x ∈ (C.op k).op.operands → aev G (C.t k) x = aev G (C.T (fun j => C.Lof listed j && decide (j < k)) C.n) x := aev_slots (fun x hx => (hs2 x hx).symm)
    unfold wpOp
    simp only [hok, hwant]
    rcases ok.step k hk with ⟨hw0, hv0, hh, hcl⟩ | ⟨hw1, hst⟩
    · rw [hw0]
      simp only [Bool.false_eq_true, if_false]
      have hI := I.readStep ok hk hLk hL2 hL3 hbef hcl (by rw [hv0]; trivial) (by rw [hv0]; trivial)
      have hu : undef = (C.v k).den ρ := by rw [hv0]; rfl
      rw [hu]
      exact hnext _ _ _ _ hI
    · rw [hw1]
      simp only [if_true]
      refine .inl ?_
      unfold Oper.wp
      rcases hst with ⟨hcl, hh, hrd⟩ | ⟨hcl, hef⟩ | ⟨hcl, hal, haw⟩
      · have h1 := hrd p hpk I.start (fun m hm hcm hb => (I.eff m hm hcm).1 (hbef m hb))
        rw [aread_congr haev] at h1
        obtain ⟨g1, g2⟩ := aread_sound (P := P) I.r hlow hEv h1
        rw [hexec, g1, Oper.upon_value]
        refine hnext _ _ _ _ (I.readStep ok hk hLk hL2 hL3 hbef hcl (ws_mono (fun x hx => hx.1) _ g2) (ws_mono (fun x hx => ?_) _ g2))
        show x < (C.h (k + 1)).n
        rw [hh]; exact hx.2
      · have hall : ∀ j, j < k → C.Lof listed j = true := fun j hj => hbef j (ok.effs k hk hcl j hj)
        obtain ⟨ra, sa, _⟩ := absorb hc ok I k hpk (by omega) (fun j _ hj => hall j hj)
        have htk : AV.wsL (below (C.h k).n) (C.t k) := by
          rw [← T_all ok k (by omega)]
          refine T_ws (wsL_mono (fun x hx => Nat.lt_of_lt_of_le hx (mono hc ok (Nat.zero_le _) (by omega))) _ I.t0ws) k (fun j hj _ => ?_)
          exact ws_mono (fun x hx => Nat.lt_of_lt_of_le hx (mono hc ok (show j + 1 ≤ k by omega) (by omega))) _ (I.vws j (by omega) (hall j hj)).2
        have hexec2 : execOp a.eval (C.op k) = execOp (evOf ρ (C.t k)) (C.op k) := exec_slots ok hk I.tmps hs1
        rw [hexec2]
        refine aeff_sound hc ra (Evs.mk (ra.globS fun _ hx => hx) htk) hef (fun ρ1 w1 r1 s1 hv1 => ?_)
        exact hnext _ _ _ _ (I.effStep hc ok hk hLk hL2 hL3 hbef hcl r1 s1 hv1)
      · rw [awrite_al_congr hal haev] at haw
        obtain ⟨cs, esz, e1, e2, e3, e4⟩ := al_sound hEv hal haw
        obtain ⟨E, e5⟩ := e4 w
        rw [hexec, e5, Oper.upon_value]
        exact hnext _ _ _ _ (I.alStep hc ok hk hLk hL2 hL3 hbef hcl e1 (wsL_mono (fun x hx => hx.1) _ e2) (wsL_mono (fun x hx => hx.2) _ e2) e3)
end
end Can
end Go.Sx
