/- DERIVED, by an AI agent: a part of the engine 'Sx' (a machine over values and numbered objects, proved sound against the model's calls): no condition. No person has read it. -/
import Derived.Test.YtlbgokakghchiaaDoorSxOp
set_option linter.all false
namespace Go.Sx
open Go Go.RowKit

section
variable {N : Nat} {G : Nat → Option Nat} {ρ : Env} {h : AHeap} {S : Nat → Prop} {w : World} {P : Program} {e : Operand → Option AV} {ev : Operand → Value}

theorem Evs.of (he : Evs e ev ρ S) {x : Operand} {v : AV} (hx : e x = some v) : ev x = v.den ρ := (he x v hx).1
theorem Evs.wsOf (he : Evs e ev ρ S) {x : Operand} {v : AV} (hx : e x = some v) : v.ws S := (he x v hx).2

theorem equal_nil {t : TypeId} {a b : AV} {r : Bool} (hn : anil P t a b = some r) : (Op.equal t (a.den ρ) (b.den ρ)).run P w = .ok r w := by
  unfold Op.equal Op.maxDepth
  unfold anil at hn
  split at hn <;> simp only [Option.some.injEq, reduceCtorEq] at hn <;> subst hn <;> rename_i hd <;> simp only [AV.den] <;>
    (rw [Op.equalIn]; simp only [Sem.run_bind, run_underlying hd, Result.andThen_ok]; rfl)

theorem anil_sound {t : TypeId} {a b : AV} {r : Bool} (hn : anil P t a b = some r) (op : BinOp) (x y : Operand) {v : AV} (hv : aneg op r = some v) :
    ((do eqGuard op t x y (a.den ρ) (b.den ρ); binOp op t (a.den ρ) (b.den ρ) : Sem Value)).run P w = .ok (v.den ρ) w ∧ v.ws S := by
  have h1 := equal_nil (ρ := ρ) (w := w) hn
  have h2 : ∀ z, eqGuard op z x y (a.den ρ) (b.den ρ) = pure () := by
    intro z
    unfold anil at hn
    unfold eqGuard
    split at hn <;> first | (simp at hn; done) | (cases op <;> rfl)
  have h3 : binOp .eql t (a.den ρ) (b.den ρ) = (do pure (.bool (← Op.equal t (a.den ρ) (b.den ρ)))) ∧ binOp .neq t (a.den ρ) (b.den ρ) = (do pure (.bool (!(← Op.equal t (a.den ρ) (b.den ρ))))) := by
    unfold anil at hn
    split at hn <;> first | (simp at hn; done) | exact ⟨rfl, rfl⟩
  simp only [h2, pure_bind]
  unfold aneg at hv
  cases op <;> simp only [Option.some.injEq, reduceCtorEq] at hv <;> subst hv
  · rw [h3.1]; simp [h1, AV.den, AV.ws]
  · rw [h3.2]; simp [h1, AV.den, AV.ws]

theorem abound_sound (he : Evs e ev ρ S) {x : Operand} {y y' k : Nat} (hb : abound (e x) y = some k) (hy : y ≤ y') (c : BoundsCode) :
    (Instr.sliceBound (ev x) y' c).run P w = .ok k w ∧ k ≤ y := by
  unfold abound at hb
  split at hb
  · rename_i kd i hx
    split at hb
    · rename_i hc
      simp only [Option.some.injEq] at hb
      subst hb
      rw [he.of hx]
      refine ⟨?_, by omega⟩
      have : 0 ≤ i ∧ i ≤ (y' : Int) := ⟨hc.1, by omega⟩
      simp [Instr.sliceBound, AV.den, asIntOf, this]
    · cases hb
  · cases hb

theorem abounds_sound (he : Evs e ev ρ S) {len cap cap' l hh m : Nat} {lo hi mx : Option Operand} (hb : abounds e len cap lo hi mx = some (l, hh, m)) (hc : cap ≤ cap') (b : Bool) :
    (Instr.sliceBounds b len cap' (lo.map ev) (hi.map ev) (mx.map ev)).run P w = .ok (l, hh, if mx.isSome then m else cap') w ∧ l ≤ hh ∧ (mx = none → m = cap) ∧ m ≤ cap ∧ l ≤ m := by
  unfold abounds at hb
  cases mx with
  | none =>
    simp only at hb
    cases hi with
    | none =>
      simp only at hb
      cases lo with
      | none =>
        simp only at hb
        split at hb <;> simp only [Option.some.injEq, Prod.mk.injEq, reduceCtorEq] at hb
        rename_i hlm
        obtain ⟨rfl, rfl, rfl⟩ := hb
        refine ⟨by simp [Instr.sliceBounds], by omega, fun _ => rfl, Nat.le_refl _, hlm⟩
      | some x =>
        simp only at hb
        cases hq : abound (e x) len with
        | none => simp [hq] at hb
        | some k =>
          (try simp only [hq] at hb); split at hb <;> simp only [Option.some.injEq, Prod.mk.injEq, reduceCtorEq] at hb; rename_i hlm
          obtain ⟨rfl, rfl, rfl⟩ := hb
          obtain ⟨h1, h2⟩ := abound_sound (P := P) (w := w) he hq (Nat.le_refl _) .sliceB
          refine ⟨by simp [Instr.sliceBounds, h1], h2, fun _ => rfl, Nat.le_refl _, hlm⟩
    | some y =>
      simp only at hb
      cases hy : abound (e y) cap with
      | none => simp [hy] at hb
      | some k' =>
        simp only [hy] at hb
        obtain ⟨g1, g2⟩ := abound_sound (P := P) (w := w) he hy hc (if b then .sliceAcap else .sliceAlen)
        cases lo with
        | none =>
          simp only at hb
          split at hb <;> simp only [Option.some.injEq, Prod.mk.injEq, reduceCtorEq] at hb
          rename_i hlm
          obtain ⟨rfl, rfl, rfl⟩ := hb
          refine ⟨by simp [Instr.sliceBounds, g1], by omega, fun _ => rfl, Nat.le_refl _, hlm⟩
        | some x =>
          simp only at hb
          cases hq : abound (e x) k' with
          | none => simp [hq] at hb
          | some k =>
            (try simp only [hq] at hb); split at hb <;> simp only [Option.some.injEq, Prod.mk.injEq, reduceCtorEq] at hb; rename_i hlm
            obtain ⟨rfl, rfl, rfl⟩ := hb
            obtain ⟨h1, h2⟩ := abound_sound (P := P) (w := w) he hq (Nat.le_refl _) .sliceB
            refine ⟨by simp [Instr.sliceBounds, g1, h1], h2, fun _ => rfl, Nat.le_refl _, hlm⟩
  | some z =>
    simp only at hb
    cases hz : abound (e z) cap with
    | none => simp [hz] at hb
    | some k2 =>
      simp only [hz] at hb
      obtain ⟨f1, f2⟩ := abound_sound (P := P) (w := w) he hz hc (if b then .slice3Acap else .slice3Alen)
      cases hi with
      | none => simp at hb
      | some y =>
        simp only at hb
        cases hy : abound (e y) k2 with
        | none => simp [hy] at hb
        | some k' =>
          simp only [hy] at hb
          obtain ⟨g1, g2⟩ := abound_sound (P := P) (w := w) he hy (Nat.le_refl _) .slice3B
          cases lo with
          | none =>
            simp only at hb
            split at hb <;> simp only [Option.some.injEq, Prod.mk.injEq, reduceCtorEq] at hb
            rename_i hlm
            obtain ⟨rfl, rfl, rfl⟩ := hb
            refine ⟨by simp [Instr.sliceBounds, f1, g1], by omega, nofun, f2, hlm⟩
          | some x =>
            simp only at hb
            cases hq : abound (e x) k' with
            | none => simp [hq] at hb
            | some k =>
              (try simp only [hq] at hb); split at hb <;> simp only [Option.some.injEq, Prod.mk.injEq, reduceCtorEq] at hb; rename_i hlm
              obtain ⟨rfl, rfl, rfl⟩ := hb
              obtain ⟨h1, h2⟩ := abound_sound (P := P) (w := w) he hq (Nat.le_refl _) .slice3C
              refine ⟨by simp [Instr.sliceBounds, f1, g1, h1], h2, nofun, f2, hlm⟩

theorem asub_sound {size : Nat} {a : Option (Nat × Nat)} {len cap : Nat} {z : Option Nat} {op : Bool} {l hh m : Nat} {full : Bool} {v : AV}
    (hz : (z.isSome && decide (cap ≠ 0)) = false) (hm : full = false → m = cap) (hl : l ≤ hh) (hle : l ≤ m)
    (hw : (AV.slice a len cap z op).ws S) (hs : asub size a cap z op l hh m full = some v) :
    ∃ a' cap', (AV.slice a len cap z op).den ρ = .slice a' len cap' ∧ cap ≤ cap' ∧
      Value.slice (if (if full then m else cap') = l then a' else a'.map (·.add (l * size))) (hh - l) ((if full then m else cap') - l) = v.den ρ ∧ v.ws S := by
  unfold asub at hs
  cases a with
  | none =>
    refine ⟨none, cap, rfl, Nat.le_refl _, ?_⟩
    by_cases hc : (op && !full) = true
    · rw [if_pos hc] at hs; cases hs
    · rw [if_neg hc] at hs
      split at hs
      · cases hs
      · simp only [Option.some.injEq] at hs
        subst hs
        cases full with
        | true => simp [AV.den, AV.ws]
        | false => have := hm rfl; subst this; simp [AV.den, AV.ws]
  | some p =>
    obtain ⟨i, off⟩ := p
    refine ⟨some (sAddr ρ z i off), if op then cap + (ρ i).sl else cap, rfl, by split <;> omega, ?_⟩
    have hi : S i := hw
    by_cases hc : (op && !full) = true
    · rw [if_pos hc] at hs
      simp only [Bool.and_eq_true, Bool.not_eq_true'] at hc
      obtain ⟨hop, hfull⟩ := hc
      have hmc := hm hfull
      subst hop
      subst hfull
      subst hmc
      simp only [if_true, Bool.false_eq_true, if_false]
      by_cases hml : m = l
      · simp only [hml, if_true] at hs
        simp only [Option.some.injEq] at hs
        subst hs
        refine ⟨?_, hi⟩
        by_cases hl0 : l = 0
        · subst hl0
          simp only [AV.den, if_true, hml, Nat.zero_mul, Nat.add_zero]
          have : ∀ b : Addr, b.add 0 = b := fun b => if_pos rfl
          simp [this]
        · have hzn : z = none := by
            cases z with
            | none => rfl
            | some _ => simp at hz; omega
          subst hzn
          by_cases hsl : (ρ i).sl = 0
          · simp [AV.den, hl0, hsl, hml, sAddr]
          · have : ¬ (l + (ρ i).sl = l) := by omega
            simp [AV.den, hl0, hsl, hml, sAddr, this, pAddr_add]
      · simp only [hml, if_false] at hs
        simp only [Option.some.injEq] at hs
        subst hs
        have hzn : z = none := by
          cases z with
          | none => rfl
          | some _ => simp at hz; omega
        subst hzn
        refine ⟨?_, hi⟩
        have : ¬ (m + (ρ i).sl = l) := by omega
        simp [AV.den, sAddr, this, pAddr_add]
        omega
    · rw [if_neg hc] at hs
      split at hs
      · cases hs
      · rename_i hzs
        have hzn : z = none := by cases z <;> simp_all
        subst hzn
        simp only [Option.some.injEq] at hs
        subst hs
        have e1 : (if full = true then m else if op = true then cap + (ρ i).sl else cap) = m := by
          cases full with
          | true => rfl
          | false =>
            have hmc := hm rfl
            cases op with
            | true => simp at hc
            | false => simp [hmc]
        simp only [e1]
        by_cases hml : m = l
        · simp only [hml, if_true]
          exact ⟨by simp [AV.den, sAddr], hi⟩
        · simp only [hml, if_false, Option.map_some]
          exact ⟨by simp [AV.den, sAddr, pAddr_add], hi⟩

theorem asliceAt_sound (he : Evs e ev ρ S) {t : TypeId} {x v : AV} {lo hi mx : Option Operand} (hw : x.ws S) (hs : asliceAt P e t x lo hi mx = some v) :
    (Instr.sliceAt t (x.den ρ) (lo.map ev) (hi.map ev) (mx.map ev)).run P w = .ok (v.den ρ) w ∧ v.ws S := by
  unfold asliceAt at hs
  split at hs
  · rename_i n el i off hd
    split at hs
    · rename_i inf l hh m hi' hb
      simp only [Option.some.injEq] at hs
      subst hs
      obtain ⟨b1, b2, b3, b4, _⟩ := abounds_sound (P := P) (w := w) he hb (Nat.le_refl _) false
      have e1 : (if mx.isSome then m else n) = m := by
        cases mx with
        | none => simp [b3 rfl]
        | some _ => rfl
      rw [e1] at b1
      refine ⟨?_, hw⟩
      by_cases hml : m = l
      · simp [Instr.sliceAt, run_underlying hd, AV.den, Instr.sureAddr, b1, run_sizeOf hi', hml, sAddr]
      · simp [Instr.sliceAt, run_underlying hd, AV.den, Instr.sureAddr, b1, run_sizeOf hi', hml, sAddr, pAddr_add]
    · cases hs
  · rename_i el a len cap z op hd
    split at hs
    · rename_i inf l hh m hi' hb
      split at hs
      · cases hs
      · rename_i hz
        have hz' : (z.isSome && decide (cap ≠ 0)) = false := by simpa using hz
        obtain ⟨_, b2, b3, b4, b5⟩ := abounds_sound (P := P) (w := w) he hb (Nat.le_refl _) true
        obtain ⟨a', cap', c1, c2, c3, c4⟩ := asub_sound (ρ := ρ) (S := S) (len := len) hz' (fun hf => b3 (by simpa using hf)) b2 b5 hw hs
        obtain ⟨b1, _⟩ := abounds_sound (P := P) (w := w) he hb c2 true
        refine ⟨?_, c4⟩
        rw [c1, ← c3]
        simp [Instr.sliceAt, run_underlying hd, Instr.slice, b1, run_sizeOf hi']
    · cases hs
  · cases hs
end
end Go.Sx
