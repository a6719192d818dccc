/- DERIVED, by an AI agent: a part of the engine 'Sx' (a machine over values and numbered objects, proved sound against the model's calls): no condition. No person has read it. -/
import Derived.Test.YtlbgokakghchiaaDoorSxCan3
set_option linter.all false
namespace Go.Sx
open Go Go.RowKit
namespace Can
section
variable {C : Can} {N : Nat} {G : Nat → Option Nat} {P : Program} {call : CallF} {ρ0 ρ : Env} {w0 w : World} {L L' : Nat → Bool} {a : Act} {p k : Nat}

theorem Inv.le (hc : CallOk P N G call) (ok : C.Ok P G call) (I : Inv C N G ρ0 w0 L a w p ρ) (h1 : L k = false) (hk : k < C.n) : p ≤ k := by
  rcases Nat.lt_or_ge k p with q | q
  · have := I.pre k q; rw [h1] at this; cases this
  · exact q

/-- ids named now, but not this one -/
theorem Inv.Sp_ne (hc : CallOk P N G call) (ok : C.Ok P G call) (I : Inv C N G ρ0 w0 L a w p ρ) (h1 : L k = false) (hk : k < C.n) (hal : C.cls k = .al) {x : Nat} (hx : C.Sp L p x) : x ≠ (C.h k).n := by
  have hpk := I.le hc ok h1 hk
  rcases hx with h | ⟨m, m1, m2, m3, m4, m5⟩
  · have := mono hc ok hpk (by omega); omega
  · subst m5
    rcases Nat.lt_trichotomy m k with q | q | q
    · have h2 := al_lt hc ok m2 m3
      have h3 := mono hc ok (show m + 1 ≤ k by omega) (by omega)
      intro e; omega
    · subst q; rw [h1] at m4; cases m4
    · have h2 := al_lt hc ok hk hal
      have h3 := mono hc ok (show k + 1 ≤ m by omega) (by omega)
      intro e; omega

theorem Inv.alStep (hc : CallOk P N G call) (ok : C.Ok P G call) (I : Inv C N G ρ0 w0 L a w p ρ) (hk : k < C.n) (h1 : L k = false) (h2 : L' k = true) (h3 : ∀ j, j ≠ k → L' j = L j)
    (hbef : ∀ j, C.bef j k = true → L j = true) (hcl : C.cls k = .al) {cs : List AV} {esz : Nat} {E : TypeId} (hh : C.h (k + 1) = (C.h k).alloc (.cells cs false esz))
    (hw1 : AV.wsL (C.Sp L p) cs) (hw2 : AV.wsL (below (C.h k).n) cs) (hv : (C.v k).ws (fun i => i = (C.h k).n)) :
    Inv C N G ρ0 w0 L' (a.put (C.dst k) ((C.v k).den (upd ρ (C.h k).n ⟨w.heap.size, 0, 0⟩))) (w.alloc (.cells (AV.denL ρ cs).toArray E)) p (upd ρ (C.h k).n ⟨w.heap.size, 0, 0⟩) := by
  have hmono : ∀ j, L j = true → L' j = true := fun j hj => by
    by_cases e : j = k
    · rw [e]; exact h2
    · rw [h3 j e]; exact hj
  have hT := I.tmps' ok hk h1 h2 h3
  have hpk := I.le hc ok h1 hk
  have hne : ∀ x, C.Sp L p x → upd ρ (C.h k).n ⟨w.heap.size, 0, 0⟩ x = ρ x := fun x hx => upd_ne _ _ (I.Sp_ne hc ok h1 hk hcl hx)
  have hlow : ∀ x, x < (C.h p).n → upd ρ (C.h k).n ⟨w.heap.size, 0, 0⟩ x = ρ x := fun x hx => hne x (.inl hx)
  have hbelow : Below w.heap.size w (w.alloc (.cells (AV.denL ρ cs).toArray E)) := (Below.refl _ _).alloc (Nat.le_refl _) _
  have hr : R N G (upd ρ (C.h k).n ⟨w.heap.size, 0, 0⟩) (C.h p) (w.alloc (.cells (AV.denL ρ cs).toArray E)) := by
    refine R.env (ρ := ρ) ?_ hlow
    refine ⟨I.r.lt, I.r.ws, ?_, I.r.low, I.r.high, I.r.apart, by have := I.r.base; simp; omega, I.r.glob⟩
    intro i o hi
    exact Fits.keep (Ext.refl (below (C.h p).n) _) (I.r.lt i o hi) (I.r.ws i o hi) (fun ob hob => by
      rw [hbelow.block _ (Array.getElem?_eq_some_iff.1 hob).1]; exact hob) (I.r.fits i o hi)
  have hTws : AV.wsL (C.Sp L p) (C.T L C.n) := I.Tws
  have hTden : AV.denL (upd ρ (C.h k).n ⟨w.heap.size, 0, 0⟩) (C.T L C.n) = AV.denL ρ (C.T L C.n) := denL_ext (n := C.Sp L p) hne _ hTws
  refine ⟨I.pLe, I.w0N, I.start, ?_, fun j hj => hmono j (I.pre j hj), I.closed' h3 h2 hbef, hr, ?_, ?_, (by cases C.dst k <;> exact I.defers), ?_, ?_, ?_, ?_, ?_⟩
  · intro j hj hcj
    have : j ≠ k := fun e => by rw [e, hcl] at hcj; cases hcj
    rw [h3 j this]; exact I.eff j hj hcj
  · refine ⟨fun i hi => ?_, I.stp.n, I.stp.os, I.stp.tape, I.stp.output, by have := I.stp.size; simp; omega, ?_, ?_⟩
    · rw [hlow i (Nat.lt_of_lt_of_le hi I.stp.n)]; exact I.stp.ext i hi
    · intro b hb; exact I.stp.own b (Owned.env I.r hlow hb)
    · intro b hb hn
      rw [hbelow.block b (Nat.lt_of_lt_of_le hb I.stp.size)]; exact I.stp.keep b hb hn
  · rw [hT]
    cases hd : C.dst k with
    | none => simp only [Act.put, aput, I.tmps, hTden]
    | some d =>
      simp only [Act.put, aput, I.tmps, ← hTden]
      apply Array.ext'
      simp [denL_map, List.map_set]
  · intro j hj hL
    by_cases e : j = k
    · rw [e]
      refine ⟨ws_mono (fun x hx => ?_) _ hv, ws_mono (fun x hx => ?_) _ hv⟩
      · rw [hx]; exact .inr ⟨k, hpk, hk, hcl, h2, rfl⟩
      · rw [hx]; exact al_lt hc ok hk hcl
    · rw [h3 j e] at hL
      exact ⟨ws_mono (Sp_mono hmono) _ (I.vws j hj hL).1, (I.vws j hj hL).2⟩
  · intro j hpj hj hcj hL
    by_cases e : j = k
    · subst e
      refine ⟨cs, esz, E, hh, ?_, ?_, ?_, ?_, ?_, wsL_mono (Sp_mono hmono) _ hw1, hw2⟩
      · rw [upd_self, denL_ext (n := C.Sp L p) hne _ hw1]
        show (w.heap.push _)[w.heap.size]? = _
        simp
      · rw [upd_self]
      · rw [upd_self]
      · rw [upd_self]; exact I.stp.size
      · rw [upd_self]
        intro ho
        obtain ⟨i, o, hi, ho', hb⟩ := Owned.env I.r hlow ho
        have := I.r.block_lt hi ho'
        have hb' : (ρ i).b = w.heap.size := hb
        omega
    · rw [h3 j e] at hL
      obtain ⟨cs', esz', E', g1, g2, g3, g4, g5, g6, g7, g8⟩ := I.pend j hpj hj hcj hL
      have hid : upd ρ (C.h k).n ⟨w.heap.size, 0, 0⟩ (C.h j).n = ρ (C.h j).n := hne _ (.inr ⟨j, hpj, hj, hcj, hL, rfl⟩)
      refine ⟨cs', esz', E', g1, ?_, by rw [hid]; exact g3, by rw [hid]; exact g4, by rw [hid]; exact g5, by rw [hid]; exact fun ho => g6 (Owned.env I.r hlow ho), wsL_mono (Sp_mono hmono) _ g7, g8⟩
      rw [hid, denL_ext (n := C.Sp L p) hne _ g7, hbelow.block _ (Array.getElem?_eq_some_iff.1 g2).1]
      exact g2
  · intro j m hpj hj hcj hLj hpm hm hcm hLm hjm
    have old : ∀ i, i ≠ k → p ≤ i → i < C.n → C.cls i = .al → L' i = true → upd ρ (C.h k).n ⟨w.heap.size, 0, 0⟩ (C.h i).n = ρ (C.h i).n ∧ (ρ (C.h i).n).b < w.heap.size ∧ L i = true := by
      intro i hi1 hi2 hi3 hi4 hi5
      rw [h3 i hi1] at hi5
      obtain ⟨_, _, _, _, g2, _⟩ := I.pend i hi2 hi3 hi4 hi5
      exact ⟨hne _ (.inr ⟨i, hi2, hi3, hi4, hi5, rfl⟩), (Array.getElem?_eq_some_iff.1 g2).1, hi5⟩
    by_cases e1 : j = k
    · by_cases e2 : m = k
      · exact absurd (e1.trans e2.symm) hjm
      · obtain ⟨o1, o2, _⟩ := old m e2 hpm hm hcm hLm
        rw [e1, upd_self, o1]
        show w.heap.size ≠ _
        omega
    · obtain ⟨o1, o2, o3⟩ := old j e1 hpj hj hcj hLj
      by_cases e2 : m = k
      · rw [e2, upd_self, o1]
        show _ ≠ w.heap.size
        omega
      · obtain ⟨q1, q2, q3⟩ := old m e2 hpm hm hcm hLm
        rw [o1, q1]
        exact I.pdist j m hpj hj hcj o3 hpm hm hcm q3 hjm
  · intro j hj
    have e : j ≠ k := by omega
    rw [h3 j e]; exact I.out j hj
  · exact I.t0ws

theorem Inv.effStep (hc : CallOk P N G call) (ok : C.Ok P G call) (I : Inv C N G ρ0 w0 L a w p ρ) (hk : k < C.n) (h1 : L k = false) (h2 : L' k = true) (h3 : ∀ j, j ≠ k → L' j = L j)
    (hbef : ∀ j, C.bef j k = true → L j = true) (hcl : C.cls k = .eff) {ρ1 : Env} {w1 : World}
    (r1 : R N G ρ1 (C.h (k + 1)) w1) (s1 : Stp ρ (C.h k) w ρ1 (C.h (k + 1)) w1) (hv : (C.v k).ws (below (C.h (k + 1)).n)) :
    Inv C N G ρ0 w0 L' (a.put (C.dst k) ((C.v k).den ρ1)) w1 (k + 1) (fun x => if x < (C.h (k + 1)).n then ρ1 x else ρ x) := by
  have hmono : ∀ j, L j = true → L' j = true := fun j hj => by
    by_cases e : j = k
    · rw [e]; exact h2
    · rw [h3 j e]; exact hj
  have hT := I.tmps' ok hk h1 h2 h3
  have hpk := I.le hc ok h1 hk
  have hall : ∀ j, j < k → L j = true := fun j hj => hbef j (ok.effs k hk hcl j hj)
  obtain ⟨ra, sa, oa⟩ := absorb hc ok I k hpk (by omega) (fun j _ hj => hall j hj)
  have hm1 := mono1 hc ok hk
  generalize hρ2 : (fun x => if x < (C.h (k + 1)).n then ρ1 x else ρ x : Env) = ρ2
  have hlow : ∀ x, x < (C.h (k + 1)).n → ρ2 x = ρ1 x := fun x hx => by rw [← hρ2]; exact if_pos hx
  have hhigh : ∀ x, ¬ x < (C.h (k + 1)).n → ρ2 x = ρ x := fun x hx => by rw [← hρ2]; exact if_neg hx
  -- what was named before is as it was
  have hne : ∀ x, C.Sp L p x → ρ2 x = ρ x := by
    rintro x (h | ⟨m, m1, m2, m3, m4, m5⟩)
    · have := mono hc ok hpk (by omega)
      rw [hlow x (by omega)]; exact s1.ext x (by show x < (C.h k).n; omega)
    · subst m5
      rcases Nat.lt_trichotomy m k with q | q | q
      · have g1 := al_lt hc ok m2 m3
        have g2 := mono hc ok (show m + 1 ≤ k by omega) (by omega)
        rw [hlow _ (by omega)]; exact s1.ext _ (by show (C.h m).n < (C.h k).n; omega)
      · subst q; rw [h1] at m4; cases m4
      · have g2 := mono hc ok (show k + 1 ≤ m by omega) (by omega)
        rw [hhigh _ (by omega)]
  have hSp : ∀ x, C.Sp L p x → C.Sp L' (k + 1) x := by
    rintro x (h | ⟨m, m1, m2, m3, m4, m5⟩)
    · have := mono hc ok hpk (by omega); exact .inl (by omega)
    · rcases Nat.lt_trichotomy m k with q | q | q
      · have g1 := al_lt hc ok m2 m3
        have g2 := mono hc ok (show m + 1 ≤ k by omega) (by omega)
        exact .inl (by rw [m5]; omega)
      · subst q; rw [h1] at m4; cases m4
      · exact .inr ⟨m, by omega, m2, m3, hmono m m4, m5⟩
  have hTden : AV.denL ρ2 (C.T L C.n) = AV.denL ρ (C.T L C.n) := denL_ext (n := C.Sp L p) hne _ I.Tws
  have hvden : (C.v k).den ρ2 = (C.v k).den ρ1 := den_ext (n := below (C.h (k + 1)).n) hlow _ hv
  have s2 := sa.trans s1
  refine ⟨by omega, I.w0N, .inr (by simpa using hcl), ?_, ?_, I.closed' h3 h2 hbef, R.env r1 hlow, ?_, ?_, (by cases C.dst k <;> exact I.defers), ?_, ?_, ?_, ?_, ?_⟩
  · intro j hj hcj
    by_cases e : j = k
    · rw [e, h2]; simp
    · rw [h3 j e]
      have := I.eff j hj hcj
      constructor
      · intro hL; have := this.1 hL; omega
      · intro hjk; exact hall j (by omega)
  · intro j hj
    by_cases e : j = k
    · rw [e]; exact h2
    · exact hmono j (hall j (by omega))
  · refine ⟨fun i hi => ?_, s2.n, s2.os, s2.tape, s2.output, s2.size, ?_, s2.keep⟩
    · rw [hlow i (Nat.lt_of_lt_of_le hi s2.n)]; exact s2.ext i hi
    · intro b hb; exact s2.own b (Owned.env r1 hlow hb)
  · rw [hT]
    cases hd : C.dst k with
    | none => simp only [Act.put, aput, I.tmps, hTden]
    | some d =>
      simp only [Act.put, aput, I.tmps, ← hTden, ← hvden]
      apply Array.ext'
      simp [denL_map, List.map_set]
  · intro j hj hL
    by_cases e : j = k
    · rw [e]; exact ⟨ws_mono (fun x hx => .inl hx) _ hv, hv⟩
    · rw [h3 j e] at hL
      exact ⟨ws_mono hSp _ (I.vws j hj hL).1, (I.vws j hj hL).2⟩
  · intro j hpj hj hcj hL
    have e : j ≠ k := by omega
    rw [h3 j e] at hL
    obtain ⟨cs', esz', E', g1, g2, g3, g4, g5, g6, g7, g8⟩ := I.pend j (by omega) hj hcj hL
    have hid : ρ2 (C.h j).n = ρ (C.h j).n := hne _ (.inr ⟨j, by omega, hj, hcj, hL, rfl⟩)
    have hfree : ¬ Owned ρ (C.h k) (ρ (C.h j).n).b := fun ho => by
      rcases oa _ ho with h | ⟨m, q1, q2, q3, q4⟩
      · exact g6 h
      · exact I.pdist j m (by omega) hj hcj hL q1 (by omega) q3 (hall m q2) (by omega) q4
    have hlt := (Array.getElem?_eq_some_iff.1 g2).1
    refine ⟨cs', esz', E', g1, ?_, by rw [hid]; exact g3, by rw [hid]; exact g4, by rw [hid]; exact g5, ?_, wsL_mono hSp _ g7, g8⟩
    · rw [hid, denL_ext (n := C.Sp L p) hne _ g7, s1.keep _ hlt hfree]; exact g2
    · rw [hid]
      intro ho
      rcases s1.own _ (Owned.env r1 hlow ho) with h | h
      · exact hfree h
      · omega
  · intro j m hpj hj hcj hLj hpm hm hcm hLm hjm
    rw [h3 j (by omega)] at hLj
    rw [h3 m (by omega)] at hLm
    rw [hne _ (.inr ⟨j, by omega, hj, hcj, hLj, rfl⟩), hne _ (.inr ⟨m, by omega, hm, hcm, hLm, rfl⟩)]
    exact I.pdist j m (by omega) hj hcj hLj (by omega) hm hcm hLm hjm
  · intro j hj
    have e : j ≠ k := by omega
    rw [h3 j e]; exact I.out j hj
  · exact I.t0ws
end
end Can
end Go.Sx
