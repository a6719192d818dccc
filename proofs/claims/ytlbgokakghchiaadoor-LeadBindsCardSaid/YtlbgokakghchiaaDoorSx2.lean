/- YtlbgokakghchiaaDoorSx2: texts of one's own, merged: SxReadOk, SxReadOk2, SxReadOk3, SxWrite, SxWop. -/
import Derived.Test.YtlbgokakghchiaaDoorSx1
set_option linter.all false
namespace Go.Sx
open Go Go.RowKit

section
variable {N : Nat} {G : Nat → Option Nat} {ρ : Env} {h : AHeap} {S : Nat → Prop} {w : World} {P : Program} {e : Operand → Option AV} {ev : Operand → Value}

theorem Evs.of (he : Evs e ev ρ S) {x : Operand} {v : AV} (hx : e x = some v) : ev x = v.den ρ := (he x v hx).1
theorem Evs.wsOf (he : Evs e ev ρ S) {x : Operand} {v : AV} (hx : e x = some v) : v.ws S := (he x v hx).2

theorem equal_nil {t : TypeId} {a b : AV} {r : Bool} (hn : anil P t a b = some r) : (Op.equal t (a.den ρ) (b.den ρ)).run P w = .ok r w := by
  unfold Op.equal Op.maxDepth
  unfold anil at hn
  split at hn <;> simp only [Option.some.injEq, reduceCtorEq] at hn <;> subst hn <;> rename_i hd <;> simp only [AV.den] <;>
    (rw [Op.equalIn]; simp only [Sem.run_bind, run_underlying hd, Result.andThen_ok]; rfl)

theorem anil_sound {t : TypeId} {a b : AV} {r : Bool} (hn : anil P t a b = some r) (op : BinOp) (x y : Operand) {v : AV} (hv : aneg op r = some v) :
    ((do eqGuard op t x y (a.den ρ) (b.den ρ); binOp op t (a.den ρ) (b.den ρ) : Sem Value)).run P w = .ok (v.den ρ) w ∧ v.ws S := by
  have h1 := equal_nil (ρ := ρ) (w := w) hn
  have h2 : ∀ z, eqGuard op z x y (a.den ρ) (b.den ρ) = pure () := by
    intro z
    unfold anil at hn
    unfold eqGuard
    split at hn <;> first | (simp at hn; done) | (cases op <;> rfl)
  have h3 : binOp .eql t (a.den ρ) (b.den ρ) = (do pure (.bool (← Op.equal t (a.den ρ) (b.den ρ)))) ∧ binOp .neq t (a.den ρ) (b.den ρ) = (do pure (.bool (!(← Op.equal t (a.den ρ) (b.den ρ))))) := by
    unfold anil at hn
    split at hn <;> first | (simp at hn; done) | exact ⟨rfl, rfl⟩
  simp only [h2, pure_bind]
  unfold aneg at hv
  cases op <;> simp only [Option.some.injEq, reduceCtorEq] at hv <;> subst hv
  · rw [h3.1]; simp [h1, AV.den, AV.ws]
  · rw [h3.2]; simp [h1, AV.den, AV.ws]

theorem abound_sound (he : Evs e ev ρ S) {x : Operand} {y y' k : Nat} (hb : abound (e x) y = some k) (hy : y ≤ y') (c : BoundsCode) :
    (Instr.sliceBound (ev x) y' c).run P w = .ok k w ∧ k ≤ y := by
  unfold abound at hb
  split at hb
  · rename_i kd i hx
    split at hb
    · rename_i hc
      simp only [Option.some.injEq] at hb
      subst hb
      rw [he.of hx]
      refine ⟨?_, by omega⟩
      have : 0 ≤ i ∧ i ≤ (y' : Int) := ⟨hc.1, by omega⟩
      simp [Instr.sliceBound, AV.den, asIntOf, this]
    · cases hb
  · cases hb

theorem abounds_sound (he : Evs e ev ρ S) {len cap cap' l hh m : Nat} {lo hi mx : Option Operand} (hb : abounds e len cap lo hi mx = some (l, hh, m)) (hc : cap ≤ cap') (b : Bool) :
    (Instr.sliceBounds b len cap' (lo.map ev) (hi.map ev) (mx.map ev)).run P w = .ok (l, hh, if mx.isSome then m else cap') w ∧ l ≤ hh ∧ (mx = none → m = cap) ∧ m ≤ cap ∧ l ≤ m := by
  unfold abounds at hb
  cases mx with
  | none =>
    simp only at hb
    cases hi with
    | none =>
      simp only at hb
      cases lo with
      | none =>
        simp only at hb
        split at hb <;> simp only [Option.some.injEq, Prod.mk.injEq, reduceCtorEq] at hb
        rename_i hlm
        obtain ⟨rfl, rfl, rfl⟩ := hb
        refine ⟨by simp [Instr.sliceBounds], by omega, fun _ => rfl, Nat.le_refl _, hlm⟩
      | some x =>
        simp only at hb
        cases hq : abound (e x) len with
        | none => simp [hq] at hb
        | some k =>
          (try simp only [hq] at hb); split at hb <;> simp only [Option.some.injEq, Prod.mk.injEq, reduceCtorEq] at hb; rename_i hlm
          obtain ⟨rfl, rfl, rfl⟩ := hb
          obtain ⟨h1, h2⟩ := abound_sound (P := P) (w := w) he hq (Nat.le_refl _) .sliceB
          refine ⟨by simp [Instr.sliceBounds, h1], h2, fun _ => rfl, Nat.le_refl _, hlm⟩
    | some y =>
      simp only at hb
      cases hy : abound (e y) cap with
      | none => simp [hy] at hb
      | some k' =>
        simp only [hy] at hb
        obtain ⟨g1, g2⟩ := abound_sound (P := P) (w := w) he hy hc (if b then .sliceAcap else .sliceAlen)
        cases lo with
        | none =>
          simp only at hb
          split at hb <;> simp only [Option.some.injEq, Prod.mk.injEq, reduceCtorEq] at hb
          rename_i hlm
          obtain ⟨rfl, rfl, rfl⟩ := hb
          refine ⟨by simp [Instr.sliceBounds, g1], by omega, fun _ => rfl, Nat.le_refl _, hlm⟩
        | some x =>
          simp only at hb
          cases hq : abound (e x) k' with
          | none => simp [hq] at hb
          | some k =>
            (try simp only [hq] at hb); split at hb <;> simp only [Option.some.injEq, Prod.mk.injEq, reduceCtorEq] at hb; rename_i hlm
            obtain ⟨rfl, rfl, rfl⟩ := hb
            obtain ⟨h1, h2⟩ := abound_sound (P := P) (w := w) he hq (Nat.le_refl _) .sliceB
            refine ⟨by simp [Instr.sliceBounds, g1, h1], h2, fun _ => rfl, Nat.le_refl _, hlm⟩
  | some z =>
    simp only at hb
    cases hz : abound (e z) cap with
    | none => simp [hz] at hb
    | some k2 =>
      simp only [hz] at hb
      obtain ⟨f1, f2⟩ := abound_sound (P := P) (w := w) he hz hc (if b then .slice3Acap else .slice3Alen)
      cases hi with
      | none => simp at hb
      | some y =>
        simp only at hb
        cases hy : abound (e y) k2 with
        | none => simp [hy] at hb
        | some k' =>
          simp only [hy] at hb
          obtain ⟨g1, g2⟩ := abound_sound (P := P) (w := w) he hy (Nat.le_refl _) .slice3B
          cases lo with
          | none =>
            simp only at hb
            split at hb <;> simp only [Option.some.injEq, Prod.mk.injEq, reduceCtorEq] at hb
            rename_i hlm
            obtain ⟨rfl, rfl, rfl⟩ := hb
            refine ⟨by simp [Instr.sliceBounds, f1, g1], by omega, nofun, f2, hlm⟩
          | some x =>
            simp only at hb
            cases hq : abound (e x) k' with
            | none => simp [hq] at hb
            | some k =>
              (try simp only [hq] at hb); split at hb <;> simp only [Option.some.injEq, Prod.mk.injEq, reduceCtorEq] at hb; rename_i hlm
              obtain ⟨rfl, rfl, rfl⟩ := hb
              obtain ⟨h1, h2⟩ := abound_sound (P := P) (w := w) he hq (Nat.le_refl _) .slice3C
              refine ⟨by simp [Instr.sliceBounds, f1, g1, h1], h2, nofun, f2, hlm⟩

theorem asub_sound {size : Nat} {a : Option (Nat × Nat)} {len cap : Nat} {z : Option Nat} {op : Bool} {l hh m : Nat} {full : Bool} {v : AV}
    (hz : (z.isSome && decide (cap ≠ 0)) = false) (hm : full = false → m = cap) (hl : l ≤ hh) (hle : l ≤ m)
    (hw : (AV.slice a len cap z op).ws S) (hs : asub size a cap z op l hh m full = some v) :
    ∃ a' cap', (AV.slice a len cap z op).den ρ = .slice a' len cap' ∧ cap ≤ cap' ∧
      Value.slice (if (if full then m else cap') = l then a' else a'.map (·.add (l * size))) (hh - l) ((if full then m else cap') - l) = v.den ρ ∧ v.ws S := by
  unfold asub at hs
  cases a with
  | none =>
    refine ⟨none, cap, rfl, Nat.le_refl _, ?_⟩
    by_cases hc : (op && !full) = true
    · rw [if_pos hc] at hs; cases hs
    · rw [if_neg hc] at hs
      split at hs
      · cases hs
      · simp only [Option.some.injEq] at hs
        subst hs
        cases full with
        | true => simp [AV.den, AV.ws]
        | false => have := hm rfl; subst this; simp [AV.den, AV.ws]
  | some p =>
    obtain ⟨i, off⟩ := p
    refine ⟨some (sAddr ρ z i off), if op then cap + (ρ i).sl else cap, rfl, by split <;> omega, ?_⟩
    have hi : S i := hw
    by_cases hc : (op && !full) = true
    · rw [if_pos hc] at hs
      simp only [Bool.and_eq_true, Bool.not_eq_true'] at hc
      obtain ⟨hop, hfull⟩ := hc
      have hmc := hm hfull
      subst hop
      subst hfull
      subst hmc
      simp only [if_true, Bool.false_eq_true, if_false]
      by_cases hml : m = l
      · simp only [hml, if_true] at hs
        simp only [Option.some.injEq] at hs
        subst hs
        refine ⟨?_, hi⟩
        by_cases hl0 : l = 0
        · subst hl0
          simp only [AV.den, if_true, hml, Nat.zero_mul, Nat.add_zero]
          have : ∀ b : Addr, b.add 0 = b := fun b => if_pos rfl
          simp [this]
        · have hzn : z = none := by
            cases z with
            | none => rfl
            | some _ => simp at hz; omega
          subst hzn
          by_cases hsl : (ρ i).sl = 0
          · simp [AV.den, hl0, hsl, hml, sAddr]
          · have : ¬ (l + (ρ i).sl = l) := by omega
            simp [AV.den, hl0, hsl, hml, sAddr, this, pAddr_add]
      · simp only [hml, if_false] at hs
        simp only [Option.some.injEq] at hs
        subst hs
        have hzn : z = none := by
          cases z with
          | none => rfl
          | some _ => simp at hz; omega
        subst hzn
        refine ⟨?_, hi⟩
        have : ¬ (m + (ρ i).sl = l) := by omega
        simp [AV.den, sAddr, this, pAddr_add]
        omega
    · rw [if_neg hc] at hs
      split at hs
      · cases hs
      · rename_i hzs
        have hzn : z = none := by cases z <;> simp_all
        subst hzn
        simp only [Option.some.injEq] at hs
        subst hs
        have e1 : (if full = true then m else if op = true then cap + (ρ i).sl else cap) = m := by
          cases full with
          | true => rfl
          | false =>
            have hmc := hm rfl
            cases op with
            | true => simp at hc
            | false => simp [hmc]
        simp only [e1]
        by_cases hml : m = l
        · simp only [hml, if_true]
          exact ⟨by simp [AV.den, sAddr], hi⟩
        · simp only [hml, if_false, Option.map_some]
          exact ⟨by simp [AV.den, sAddr, pAddr_add], hi⟩

theorem asliceAt_sound (he : Evs e ev ρ S) {t : TypeId} {x v : AV} {lo hi mx : Option Operand} (hw : x.ws S) (hs : asliceAt P e t x lo hi mx = some v) :
    (Instr.sliceAt t (x.den ρ) (lo.map ev) (hi.map ev) (mx.map ev)).run P w = .ok (v.den ρ) w ∧ v.ws S := by
  unfold asliceAt at hs
  split at hs
  · rename_i n el i off hd
    split at hs
    · rename_i inf l hh m hi' hb
      simp only [Option.some.injEq] at hs
      subst hs
      obtain ⟨b1, b2, b3, b4, _⟩ := abounds_sound (P := P) (w := w) he hb (Nat.le_refl _) false
      have e1 : (if mx.isSome then m else n) = m := by
        cases mx with
        | none => simp [b3 rfl]
        | some _ => rfl
      rw [e1] at b1
      refine ⟨?_, hw⟩
      by_cases hml : m = l
      · simp [Instr.sliceAt, run_underlying hd, AV.den, Instr.sureAddr, b1, run_sizeOf hi', hml, sAddr]
      · simp [Instr.sliceAt, run_underlying hd, AV.den, Instr.sureAddr, b1, run_sizeOf hi', hml, sAddr, pAddr_add]
    · cases hs
  · rename_i el a len cap z op hd
    split at hs
    · rename_i inf l hh m hi' hb
      split at hs
      · cases hs
      · rename_i hz
        have hz' : (z.isSome && decide (cap ≠ 0)) = false := by simpa using hz
        obtain ⟨_, b2, b3, b4, b5⟩ := abounds_sound (P := P) (w := w) he hb (Nat.le_refl _) true
        obtain ⟨a', cap', c1, c2, c3, c4⟩ := asub_sound (ρ := ρ) (S := S) (len := len) hz' (fun hf => b3 (by simpa using hf)) b2 b5 hw hs
        obtain ⟨b1, _⟩ := abounds_sound (P := P) (w := w) he hb c2 true
        refine ⟨?_, c4⟩
        rw [c1, ← c3]
        simp [Instr.sliceAt, run_underlying hd, Instr.slice, b1, run_sizeOf hi']
    · cases hs
  · cases hs
end
end Go.Sx
namespace Go.Sx
open Go Go.RowKit

section
variable {N : Nat} {G : Nat → Option Nat} {ρ : Env} {h : AHeap} {S : Nat → Prop} {w : World} {P : Program} {e : Operand → Option AV} {ev : Operand → Value}

theorem aindexAt_sound {t : TypeId} {x ix v : AV} (hw : x.ws S) (hs : aindexAt P t x ix = some v) :
    (Instr.indexAt t (x.den ρ) (ix.den ρ)).run P w = .ok (v.den ρ) w ∧ v.ws S := by
  unfold aindexAt at hs
  split at hs
  · rename_i n el i off kd k hd
    split at hs
    · rename_i inf hi
      split at hs
      · rename_i hc
        simp only [Option.some.injEq] at hs
        subst hs
        refine ⟨?_, hw⟩
        simp [Instr.indexAt, AV.den, asIntOf, run_underlying hd, Instr.sureAddr, hc, run_sizeOf hi, pAddr_add]
      · cases hs
    · cases hs
  · rename_i el i off len cap op kd k hd
    split at hs
    · rename_i inf hi
      split at hs
      · rename_i hc
        simp only [Option.some.injEq] at hs
        subst hs
        refine ⟨?_, hw⟩
        simp [Instr.indexAt, AV.den, asIntOf, run_underlying hd, Instr.sureAddr, hc, run_sizeOf hi, pAddr_add, sAddr]
      · cases hs
    · cases hs
  · cases hs

theorem afieldAt_sound {s : TypeId} {x v : AV} {f : Nat} (hw : x.ws S) (hs : afieldAt P s x f = some v) :
    (Instr.fieldAt s (x.den ρ) f).run P w = .ok (v.den ρ) w ∧ v.ws S := by
  unfold afieldAt at hs
  split at hs
  · rename_i fields i off hd
    split at hs
    · rename_i fd hf
      split at hs
      · rename_i inf hi
        split at hs
        · cases hs
        · rename_i hz
          simp only [Option.some.injEq] at hs
          subst hs
          refine ⟨?_, hw⟩
          simp [Instr.fieldAt, AV.den, run_underlying hd, hf, Instr.sureAddr, fieldPlace, run_sizeOf hi, hz, pAddr_add]
      · cases hs
    · cases hs
  · cases hs

theorem afield_sound {s : TypeId} {x v : AV} {f : Nat} (hw : x.ws S) (hs : afield P s x f = some v) :
    (Instr.field s (x.den ρ) f).run P w = .ok (v.den ρ) w ∧ v.ws S := by
  unfold afield at hs
  split at hs
  · rename_i fields cs hd
    split at hs
    · rename_i fd hf
      obtain ⟨h1, h2⟩ := apart?_sound (ρ := ρ) hw hs w
      refine ⟨?_, h2⟩
      simp [Instr.field, AV.den, run_underlying hd, hf, asAgg, h1]
    · cases hs
  · cases hs

theorem aindex_sound {t : TypeId} {x ix v : AV} (hw : x.ws S) (hs : aindex P t x ix = some v) :
    (Instr.index t (x.den ρ) (ix.den ρ)).run P w = .ok (v.den ρ) w ∧ v.ws S := by
  unfold aindex at hs
  split at hs
  · rename_i n el cs kd k hd
    split at hs
    · rename_i inf hi
      split at hs
      · rename_i hc
        obtain ⟨h1, h2⟩ := apart?_sound (ρ := ρ) hw hs w
        refine ⟨?_, h2⟩
        simp [Instr.index, AV.den, asIntOf, run_underlying hd, hc, run_sizeOf hi, h1]
      · cases hs
    · cases hs
  · cases hs

theorem azero_sound {t : TypeId} {v : AV} (hz : azero P t = some v) (w : World) (n : Nat → Prop) : (zeroValue t).run P w = .ok (v.den ρ) w ∧ v.ws n := by
  unfold azero at hz
  split at hz
  · rename_i inf hi
    split at hz
    · rename_i u hu
      obtain ⟨h1, h2⟩ := den_ofV ρ u v hz
      refine ⟨?_, h2 n⟩
      simp [zeroValue, typeInfo, hi, hu, h1]
    · cases hz
  · cases hz

theorem aparts_sound (he : Evs e ev ρ S) : ∀ (ps : List (Nat × Operand)) (qs : List (Nat × AV)), aparts e ps = some qs →
    ps.map (fun p => (p.1, ev p.2)) = qs.map (fun p => (p.1, p.2.den ρ)) ∧ ∀ p, p ∈ qs → p.2.ws S
  | [], qs, hq => by simp only [aparts, Option.some.injEq] at hq; subst hq; exact ⟨rfl, nofun⟩
  | (i, x) :: r, qs, hq => by
    simp only [aparts] at hq
    split at hq
    · rename_i v vs hv hvs
      simp only [Option.some.injEq] at hq
      subst hq
      obtain ⟨h1, h2⟩ := aparts_sound he r vs hvs
      refine ⟨by simp [he.of hv, h1], ?_⟩
      intro p hp
      simp only [List.mem_cons] at hp
      rcases hp with rfl | hp
      · exact he.wsOf hv
      · exact h2 p hp
    · cases hq

theorem aops_sound (he : Evs e ev ρ S) : ∀ (ps : List Operand) (qs : List AV), aops e ps = some qs →
    ps.map ev = AV.denL ρ qs ∧ AV.wsL S qs
  | [], qs, hq => by simp only [aops, Option.some.injEq] at hq; subst hq; exact ⟨rfl, trivial⟩
  | x :: r, qs, hq => by
    simp only [aops] at hq
    split at hq
    · rename_i v vs hv hvs
      simp only [Option.some.injEq] at hq
      subst hq
      obtain ⟨h1, h2⟩ := aops_sound he r vs hvs
      exact ⟨by simp [he.of hv, h1, AV.denL], he.wsOf hv, h2⟩
    · cases hq

theorem aplaces_sound : ∀ (fs : List Field) (pl : List (Nat × Nat)), aplaces P fs = some pl →
    ∀ w, (fs.mapM fun f => (do pure (f.offset, ← sizeOf f.type) : Sem (Nat × Nat))).run P w = .ok pl w
  | [], pl, hp, w => by simp only [aplaces, Option.some.injEq] at hp; subst hp; rfl
  | f :: fs, pl, hp, w => by
    simp only [aplaces] at hp
    split at hp
    · rename_i inf r hi hr
      simp only [Option.some.injEq] at hp
      subst hp
      have ih := aplaces_sound fs r hr w
      simp only [List.mapM_cons, Sem.run_bind, run_sizeOf hi, Result.andThen_ok, Sem.run_pure, bind_pure_comp, Sem.run_map]
      simp only [bind_pure_comp] at ih
      rw [ih]; rfl
    · cases hp

theorem abuild_sound {t : TypeId} {ps : List (Nat × AV)} {v : AV} (hw : ∀ p, p ∈ ps → p.2.ws S) (hs : abuild P t ps = some v) :
    (Instr.build t (ps.map fun p => (p.1, p.2.den ρ)).toArray).run P w = .ok (v.den ρ) w ∧ v.ws S := by
  unfold abuild at hs
  split at hs
  · rename_i z fields hz hd
    obtain ⟨z1, z2⟩ := azero_sound (ρ := ρ) hz w S
    split at hs
    · rename_i pl hpl
      cases hf : afill (fun i => pl[i]?) z.cells ps with
      | none => simp [hf] at hs
      | some out =>
        simp only [hf, Option.map_some, Option.some.injEq] at hs
        subst hs
        obtain ⟨f1, f2⟩ := afill_sound (ρ := ρ) _ ps z.cells out hf (ws_cells z z2) hw
        refine ⟨?_, f2⟩
        have hm := aplaces_sound (P := P) fields.toList pl hpl w
        have hm' : (fields.mapM fun f => (do pure (f.offset, ← sizeOf f.type) : Sem (Nat × Nat))).run P w = .ok pl.toArray w := by
          rw [← Array.toArray_toList (xs := fields), List.mapM_toArray]
          simp only [Sem.run_map, hm, Result.andThen_ok]
        have hg : (fun (i : Nat) => pl.toArray[i]?) = fun (i : Nat) => pl[i]? := by funext i; simp
        simp only [Instr.build, Sem.run_bind, z1, Result.andThen_ok, run_underlying hd, hm', den_cells, f1, List.toList_toArray, hg]
        rfl
    · cases hs
  · rename_i z n el hz hd
    obtain ⟨z1, z2⟩ := azero_sound (ρ := ρ) hz w S
    split at hs
    · rename_i inf hi
      cases hf : afill (fun i => some (i * inf.size, inf.size)) z.cells ps with
      | none => simp [hf] at hs
      | some out =>
        simp only [hf, Option.map_some, Option.some.injEq] at hs
        subst hs
        obtain ⟨f1, f2⟩ := afill_sound (ρ := ρ) _ ps z.cells out hf (ws_cells z z2) hw
        refine ⟨?_, f2⟩
        simp only [Instr.build, Sem.run_bind, z1, Result.andThen_ok, run_underlying hd, run_sizeOf hi, den_cells, f1, List.toList_toArray]
        rfl
    · cases hs
  · cases hs

theorem aassert_sound {x v : AV} {xT asserted : TypeId} {ok : Bool} (hw : x.ws S) (hs : aassert P x asserted ok = some v) :
    (Instr.typeAssert (x.den ρ) xT asserted ok).run P w = .ok (v.den ρ) w ∧ v.ws S := by
  unfold aassert at hs
  split at hs
  · cases hs
  · cases hs
  · rename_i d hni hd
    cases x <;> simp only [reduceCtorEq] at hs
    · rename_i t u
      by_cases ht : t = asserted
      · simp only [ht, if_true, Option.some.injEq] at hs
        subst hs
        cases ok <;> refine ⟨?_, ?_⟩
        · cases d <;> first | (exact (hni _ rfl).elim) | simp [Instr.typeAssert, run_underlying hd, AV.den, ht]
        · exact hw
        · cases d <;> first | (exact (hni _ rfl).elim) | simp [Instr.typeAssert, run_underlying hd, AV.den, ht, AV.denL]
        · exact ⟨hw, trivial, trivial⟩
      · simp only [ht, if_false] at hs
        cases ok with
        | false => simp at hs
        | true =>
          simp only [if_true] at hs
          cases hz : azero P asserted with
          | none => simp [hz] at hs
          | some z =>
            simp only [hz, Option.map_some, Option.some.injEq] at hs
            subst hs
            obtain ⟨z1, z2⟩ := azero_sound (ρ := ρ) hz w S
            refine ⟨?_, ⟨z2, trivial, trivial⟩⟩
            cases d <;> first | (exact (hni _ rfl).elim) | simp [Instr.typeAssert, run_underlying hd, AV.den, ht, z1, AV.denL]
    · cases ok with
      | false => simp at hs
      | true =>
        simp only [if_true] at hs
        cases hz : azero P asserted with
        | none => simp [hz] at hs
        | some z =>
          simp only [hz, Option.map_some, Option.some.injEq] at hs
          subst hs
          obtain ⟨z1, z2⟩ := azero_sound (ρ := ρ) hz w S
          refine ⟨?_, ⟨z2, trivial, trivial⟩⟩
          cases d <;> first | (exact (hni _ rfl).elim) | simp [Instr.typeAssert, run_underlying hd, AV.den, z1, AV.denL]

theorem bytes_loop (P : Program) (w : World) (f : Value → ByteArray → Sem (ForInStep ByteArray))
    (hf : ∀ (n : Int) (r : ByteArray), (f (.int .u8 n) r).run P w = .ok (.yield (r.push (UInt8.ofNat n.toNat))) w) :
    ∀ (cs : List AV) (s out : ByteArray), abytes cs s = some out → (forIn (AV.denL ρ cs) s f).run P w = .ok out w
  | [], s, out, hb => by simp only [abytes, Option.some.injEq] at hb; subst hb; simp [AV.denL]
  | v :: r, s, out, hb => by
    unfold abytes at hb
    split at hb
    · rename_i heq; cases heq
    · rename_i n r' s' heq
      simp only [List.cons.injEq] at heq
      obtain ⟨rfl, rfl⟩ := heq
      have ih := bytes_loop P w f hf r _ out hb
      simp only [AV.denL, AV.den, List.forIn_cons, Sem.run_bind, hf, Result.andThen]
      exact ih
    · cases hb

theorem aconv_sound (r : R N G ρ h w) {src dst : TypeId} {x v : AV} (hs : aconv P h src dst x = some v) :
    (convert src dst (x.den ρ)).run P w = .ok (v.den ρ) w ∧ v.ws (below h.n) := by
  unfold aconv at hs
  split at hs
  · rename_i el i off len cap op h1 h2
    split at hs
    · rename_i h3
      split at hs
      · rename_i cs hc
        cases hb : abytes cs .empty with
        | none => simp [hb] at hs
        | some s =>
          simp only [hb, Option.map_some, Option.some.injEq] at hs
          subst hs
          refine ⟨?_, trivial⟩
          obtain ⟨c1, c2, c3⟩ := cellsAt_sound (P := P) r hc
          simp only [convert, run_underlying h1, run_underlying h2, run_underlying h3, Sem.run_bind, Result.andThen_ok, AV.den, sAddr, Conv.bytesToString, c1, List.forIn_toArray]
          rw [bytes_loop (ρ := ρ) P w _ (by intro n r; simp [Sem.run_pure]) cs .empty s hb]; rfl
      · cases hs
    · cases hs
  · cases hs
end
end Go.Sx
namespace Go.Sx
open Go Go.RowKit

section
variable {N : Nat} {G : Nat → Option Nat} {ρ : Env} {h : AHeap} {S : Nat → Prop} {w : World} {P : Program} {e : Operand → Option AV} {ev : Operand → Value}

theorem akeyEq_sound {kd : TypeDesc} (hk : isKeyD kd = true) {a b : AV} {r : Bool} (hq : akeyEq a b = some r)
    (hfit : (∃ k n k', kd = .int k' ∧ a = .int k n) ∨ (∃ x, kd = .bool ∧ a = .bool x)) : Instr.sameNow kd (a.den ρ) (b.den ρ) = some r := by
  unfold akeyEq at hq
  split at hq
  · rename_i k x k' y
    rcases hfit with ⟨_, _, q, rfl, _⟩ | ⟨_, rfl, h0⟩
    · split at hq
      · rename_i hkk
        simp only [Option.some.injEq] at hq
        subst hq
        simp [AV.den, Instr.sameNow, hkk]
      · cases hq
    · cases h0
  · rcases hfit with ⟨_, _, q, rfl, h0⟩ | ⟨_, rfl, _⟩
    · cases h0
    · simp only [Option.some.injEq] at hq
      subst hq
      simp [AV.den, Instr.sameNow]
  · cases hq

theorem keyFits_spec {kd : TypeDesc} {a : AV} (hf : keyFits kd a = true) : (∃ k n k', kd = .int k' ∧ a = .int k n) ∨ (∃ x, kd = .bool ∧ a = .bool x) := by
  unfold keyFits at hf
  split at hf
  · exact .inl ⟨_, _, _, rfl, rfl⟩
  · exact .inr ⟨_, rfl, rfl⟩
  · cases hf

theorem afind_sound {kd : TypeDesc} {k : AV} (hf : keyFits kd k = true) : ∀ (es : List (AV × AV)) (l : List MapEntry) (i : Nat) (r : Option (Nat × AV)),
    l.map (fun e => (e.key, e.val)) = es.map (fun p => (p.1.den ρ, p.2.den ρ)) → afind k es = some r →
    Instr.findNow kd (k.den ρ) l i = some (r.map fun p => (i + p.1, p.2.den ρ))
  | [], l, i, r, hl, hq => by
    cases l with
    | nil => simp only [afind, Option.some.injEq] at hq; subst hq; rfl
    | cons _ _ => simp at hl
  | (k', v) :: es, l, i, r, hl, hq => by
    cases l with
    | nil => simp at hl
    | cons e l =>
      simp only [List.map_cons, List.cons.injEq, Prod.mk.injEq] at hl
      obtain ⟨⟨hk, hv⟩, hl⟩ := hl
      have hkd : isKeyD kd = true := by
        rcases keyFits_spec hf with ⟨_, _, _, rfl, _⟩ | ⟨_, rfl, _⟩ <;> rfl
      simp only [afind] at hq
      split at hq
      · rename_i heq
        simp only [Option.some.injEq] at hq
        subst hq
        have h1 := akeyEq_sound (ρ := ρ) hkd heq (keyFits_spec hf)
        simp [Instr.findNow, hk, h1, hv]
      · rename_i heq
        have h1 := akeyEq_sound (ρ := ρ) hkd heq (keyFits_spec hf)
        split at hq
        · rename_i j x hr
          simp only [Option.some.injEq] at hq
          subst hq
          have ih := afind_sound hf es l (i + 1) _ hl hr
          simp only [Instr.findNow, hk, h1, ih]
          simp [Nat.add_assoc, Nat.add_comm 1]
        · rename_i hr
          simp only [Option.some.injEq] at hq
          subst hq
          have ih := afind_sound hf es l (i + 1) _ hl hr
          simp [Instr.findNow, hk, h1, ih]
        · cases hq
      · cases hq

theorem afind_ws {n : Nat → Prop} {k : AV} : ∀ (es : List (AV × AV)) (r : Nat × AV), (∀ p, p ∈ es → p.1.ws n ∧ p.2.ws n) → afind k es = some (some r) → r.2.ws n
  | [], r, _, hq => by simp [afind] at hq
  | (k', v) :: es, r, hw, hq => by
    simp only [afind] at hq
    split at hq
    · simp only [Option.some.injEq] at hq; subst hq; exact (hw _ (List.mem_cons_self ..)).2
    · split at hq
      · rename_i j x hr
        simp only [Option.some.injEq] at hq
        subst hq
        have := afind_ws es (j, x) (fun p hp => hw p (List.mem_cons_of_mem _ hp)) hr
        exact this
      · simp at hq
      · cases hq
    · cases hq

theorem checkKey_fits {kt : TypeId} {kd : TypeDesc} (hd : P.underlying kt = some kd) {k : AV} (hf : keyFits kd k = true) (b : Bool) (w : World) :
    (Instr.checkKey b 10000 kt (k.den ρ)).run P w = .ok () w := by
  rcases keyFits_spec hf with ⟨_, _, _, rfl, rfl⟩ | ⟨_, rfl, rfl⟩ <;> (rw [Instr.checkKey]; simp [run_underlying hd, AV.den])

theorem alookup_sound (r : R N G ρ h w) {t : TypeId} {m k v : AV} {ok : Bool} (hs : alookup P h t m k ok = some v) :
    (Instr.lookup t (m.den ρ) (k.den ρ) ok).run P w = .ok (v.den ρ) w ∧ v.ws (below h.n) := by
  unfold alookup at hs
  split at hs
  case h_2 => cases hs
  rename_i kt el hd
  split at hs
  case h_2 => cases hs
  rename_i kd z es hkd hz hes
  split at hs
  case isFalse => cases hs
  rename_i hf
  obtain ⟨z1, z2⟩ := azero_sound (ρ := ρ) hz w (below h.n)
  -- the entries
  have hent : ∃ l : Array MapEntry, l.toList.map (fun e => (e.key, e.val)) = es.map (fun p => (p.1.den ρ, p.2.den ρ)) ∧ (∀ p, p ∈ es → p.1.ws (below h.n) ∧ p.2.ws (below h.n)) ∧
      (Instr.lookup t (m.den ρ) (k.den ρ) ok).run P w = (do
        Instr.checkKey l.isEmpty 10000 kt (k.den ρ)
        let (v, ok') ← match ← Instr.findKey kt (k.den ρ) l.toList with
          | some (_, v) => pure (v, true)
          | none => pure (← zeroValue el, false)
        pure (if ok then Value.tuple #[v, .bool ok'] else v) : Sem Value).run P w := by
    split at hes
    · simp only [Option.some.injEq] at hes
      subst hes
      refine ⟨#[], rfl, nofun, ?_⟩
      simp only [Instr.lookup, Sem.run_bind, run_underlying hd, Result.andThen_ok, AV.den, Sem.run_pure]
      rfl
    · rename_i i
      split at hes
      · rename_i es' hi
        simp only [Option.some.injEq] at hes
        subst hes
        obtain ⟨ents, clk, g1, g2⟩ := r.fits i _ hi
        refine ⟨ents, g2, r.ws i _ hi, ?_⟩
        have hg : (getObj (ρ i).b).run P w = .ok (.map ents clk) w := by simp [getObj, Sem.run, g1]
        simp only [Instr.lookup, Sem.run_bind, run_underlying hd, Result.andThen_ok, AV.den, hg, Sem.run_pure]
        rfl
      · cases hes
    · cases hes
  obtain ⟨l, l1, l2, l3⟩ := hent
  rw [l3]
  simp only [Sem.run_bind, checkKey_fits (ρ := ρ) hkd hf, Result.andThen_ok]
  split at hs
  · rename_i j x hfd
    simp only [Option.some.injEq] at hs
    have h1 := afind_sound (ρ := ρ) hf es l.toList 0 _ l1 hfd
    have hw := afind_ws es _ l2 hfd
    simp only [Instr.findKey, Sem.run_bind, run_underlying hkd, Result.andThen_ok, h1, Option.map_some, Sem.run_pure]
    subst hs
    cases ok
    · exact ⟨by simp [Sem.run_pure], hw⟩
    · exact ⟨by simp [Sem.run_pure, AV.den, AV.denL], hw, trivial, trivial⟩
  · rename_i hfd
    simp only [Option.some.injEq] at hs
    have h1 := afind_sound (ρ := ρ) hf es l.toList 0 _ l1 hfd
    simp only [Instr.findKey, Sem.run_bind, run_underlying hkd, Result.andThen_ok, h1, Option.map_none, Sem.run_pure, z1]
    subst hs
    cases ok
    · exact ⟨by simp [Sem.run_pure], z2⟩
    · exact ⟨by simp [Sem.run_pure, AV.den, AV.denL], z2, trivial, trivial⟩
  · cases hs

theorem alen_sound (r : R N G ρ h w) {ts : Array TypeId} {args : Array Value} {ty t : TypeId} {x v : AV} (h1 : ts[0]? = some t) (h2 : args[0]? = some (x.den ρ)) (hs : alen P h t x = some v) :
    (Builtin.len_ ts ty args).run P w = .ok (v.den ρ) w ∧ v.ws (below h.n) := by
  have hb : (Builtin.len_ ts ty args) = (do
    match ← underlying t, x.den ρ with
    | .string, .string s => pure (goInt s.size)
    | .array n _, _ => pure (goInt n)
    | .pointer arr, _ =>
      let .array n _ ← underlying arr | stuck "len: pointer to array expected"
      pure (goInt n)
    | .slice _, .slice _ n _ => pure (goInt n)
    | .map _ _, .map none | .chan _ _, .chan none => pure (goInt 0)
    | .map _ _, .map (some r) =>
      let .map entries _ ← getObj r | stuck "len: map expected"
      pure (goInt entries.size)
    | .chan _ _, .chan (some r) =>
      let .chan _ buf _ _ _ timer ← getObj r | stuck "len: channel expected"
      pure (goInt (if timer then 0 else buf.size))
    | _, _ => stuck "len: string, array, pointer to array, slice, map or channel expected" : Sem Value) := by
    unfold Builtin.len_; simp only [h1, h2]; rfl
  rw [hb]
  unfold alen at hs
  split at hs
  · rename_i q n c z op hd
    simp only [Option.some.injEq] at hs
    subst hs
    refine ⟨?_, trivial⟩
    cases q <;> simp [run_underlying hd, AV.den, goInt]
  · rename_i n q hd
    simp only [Option.some.injEq] at hs
    subst hs
    refine ⟨?_, trivial⟩
    simp [run_underlying hd, AV.den, goInt]
  · rename_i hd
    simp only [Option.some.injEq] at hs
    subst hs
    refine ⟨?_, trivial⟩
    simp [run_underlying hd, AV.den, goInt]
  · rename_i hd
    simp only [Option.some.injEq] at hs
    subst hs
    refine ⟨?_, trivial⟩
    simp [run_underlying hd, AV.den, goInt]
  · rename_i i hd
    split at hs
    · rename_i es hi
      simp only [Option.some.injEq] at hs
      subst hs
      refine ⟨?_, trivial⟩
      obtain ⟨ents, clk, g1, g2⟩ := r.fits i _ hi
      have hg : (getObj (ρ i).b).run P w = .ok (.map ents clk) w := by simp [getObj, Sem.run, g1]
      have hl : ents.size = es.length := by have := congrArg List.length g2; simpa using this
      simp [run_underlying hd, AV.den, goInt, hg, hl]
    · cases hs
  · rename_i i hd
    split at hs
    · rename_i cap buf hi
      simp only [Option.some.injEq] at hs
      subst hs
      refine ⟨?_, trivial⟩
      obtain ⟨sn, rc, g1⟩ := r.fits i _ hi
      have hg : (getObj (ρ i).b).run P w = .ok (.chan cap (buf.map (AV.den ρ)).toArray false sn rc false) w := by simp [getObj, Sem.run, g1]
      simp [run_underlying hd, AV.den, goInt, hg]
    · cases hs
  · cases hs

theorem apure_sound (he : Evs e ev ρ S) {o : Oper} {v : AV} (hs : apure P e o = some v) :
    (execOp ev o).run P w = .ok (.value (v.den ρ)) w ∧ v.ws S := by
  unfold apure at hs
  by_cases hc : ((o.op.operands.toList.all fun x => oclosed (e x)) && !isSelect o.op) = true
  case neg => rw [if_neg hc] at hs; cases hs
  rw [if_pos hc] at hs
  simp only [Bool.and_eq_true, List.all_eq_true, Bool.not_eq_true'] at hc
  obtain ⟨hc, hsel⟩ := hc
  have hcong : execOp ev o = execOp (fun x => oden (e x)) o := by
    refine execOp_congr o (fun cs b hq => by rw [hq] at hsel; simp [isSelect] at hsel) (fun x hx => ?_)
    have h1 := hc x (by simpa using hx)
    cases hx' : e x with
    | none => simp [hx', oclosed] at h1
    | some u =>
      simp only [hx', oclosed] at h1 ⊢
      rw [he.of hx', oden, den_closed ρ ρ0 u h1]
  rw [hcong]
  split at hs
  · rename_i u hu
    obtain ⟨h1, h2⟩ := den_ofV ρ u v hs
    exact ⟨by rw [h1]; exact prun_run _ _ w hu, h2 _⟩
  · cases hs

theorem aread_sound (r : R N G ρ h w) (hS : ∀ i, i < h.n → S i) (he : Evs e ev ρ S) {o : Oper} {v : AV} (hs : aread P e h o = some v) :
    (execOp ev o).run P w = .ok (.value (v.den ρ)) w ∧ v.ws S := by
  unfold aread at hs
  obtain ⟨dst, op, type, pos, after, guard⟩ := o
  split at hs
  · rename_i x hop
    simp only at hop; subst hop
    exact ⟨by simp [execOp, he.of hs], he.wsOf hs⟩
  · rename_i x hop
    simp only at hop; subst hop
    exact ⟨by simp [execOp, he.of hs], he.wsOf hs⟩
  · rename_i c a b hop
    simp only at hop; subst hop
    split at hs
    · rename_i t x y hc ha hb
      simp only [Option.some.injEq] at hs
      subst hs
      have e1 := he.of hc
      have e2 := he.of ha
      have e3 := he.of hb
      simp only [AV.den] at e1
      cases t
      · exact ⟨by simp [execOp, e1, e3, asBool], he.wsOf hb⟩
      · exact ⟨by simp [execOp, e1, e2, asBool], he.wsOf ha⟩
    · cases hs
  · rename_i t a hop
    simp only at hop; subst hop
    split at hs
    · rename_i i off ha
      obtain ⟨h1, h2⟩ := aload_sound r hs
      have e1 := he.of ha
      simp only [AV.den] at e1
      exact ⟨by simp [execOp, e1, Instr.loadAt, Instr.sureAddr, h1], ws_mono hS _ h2⟩
    · cases hs
  · rename_i x hop
    simp only at hop; subst hop
    split at hs
    · rename_i p hx
      obtain ⟨i, off⟩ := p
      simp only [Option.some.injEq] at hs
      subst hs
      have e1 := he.of hx
      simp only [AV.den] at e1
      exact ⟨by simp [execOp, e1, AV.den], he.wsOf hx⟩
    · rename_i f a b hx
      simp only [Option.some.injEq] at hs
      subst hs
      have e1 := he.of hx
      simp only [AV.den] at e1
      exact ⟨by simp [execOp, e1, AV.den], he.wsOf hx⟩
    · cases hs
  · rename_i s x f hop
    simp only at hop; subst hop
    split at hs
    · rename_i u hx
      obtain ⟨h1, h2⟩ := afieldAt_sound (ρ := ρ) (w := w) (he.wsOf hx) hs
      exact ⟨by simp [execOp, he.of hx, h1], h2⟩
    · cases hs
  · rename_i t x ix hop
    simp only at hop; subst hop
    split at hs
    · rename_i u k hx hk
      obtain ⟨h1, h2⟩ := aindexAt_sound (ρ := ρ) (w := w) (he.wsOf hx) hs
      exact ⟨by simp [execOp, he.of hx, he.of hk, h1], h2⟩
    · cases hs
  · rename_i t x lo hi mx hop
    simp only at hop; subst hop
    split at hs
    · rename_i u hx
      split at hs
      · rename_i q hq
        simp only [Option.some.injEq] at hs
        subst hs
        obtain ⟨h1, h2⟩ := asliceAt_sound (ρ := ρ) (w := w) (P := P) he (he.wsOf hx) hq
        exact ⟨by simp [execOp, he.of hx, h1], h2⟩
      · exact apure_sound he hs
    · cases hs
  · rename_i s x f hop
    simp only at hop; subst hop
    split at hs
    · rename_i u hx
      obtain ⟨h1, h2⟩ := afield_sound (ρ := ρ) (w := w) (he.wsOf hx) hs
      exact ⟨by simp [execOp, he.of hx, h1], h2⟩
    · cases hs
  · rename_i t x ix hop
    simp only at hop; subst hop
    split at hs
    · rename_i u k hx hk
      split at hs
      · rename_i q hq
        simp only [Option.some.injEq] at hs
        subst hs
        obtain ⟨h1, h2⟩ := aindex_sound (ρ := ρ) (w := w) (he.wsOf hx) hq
        exact ⟨by simp [execOp, he.of hx, he.of hk, h1], h2⟩
      · exact apure_sound he hs
    · cases hs
  · rename_i x k hop
    simp only at hop; subst hop
    split at hs
    · rename_i vs hx
      have e1 := he.of hx
      simp only [AV.den] at e1
      have e2 := denL_get (ρ := ρ) hs
      exact ⟨by simp [execOp, e1, Instr.extract, e2], wsL_get (he.wsOf hx) hs⟩
    · cases hs
  · rename_i t parts hop
    simp only at hop; subst hop
    split at hs
    · rename_i ps hps
      obtain ⟨g1, g2⟩ := aparts_sound he _ _ hps
      obtain ⟨h1, h2⟩ := abuild_sound (ρ := ρ) (w := w) g2 hs
      refine ⟨?_, h2⟩
      have : (parts.map fun (x : Nat × Operand) => (x.1, ev x.2)) = (ps.map fun p => (p.1, p.2.den ρ)).toArray := by
        rw [← g1]; apply Array.ext'; simp
      simp only [execOp, this, Sem.run_bind, h1, Result.andThen_ok, Sem.run_pure]
    · cases hs
  · rename_i t x hop
    simp only at hop; subst hop
    split at hs
    · cases hs
    · rename_i d u hni hd hx
      simp only [Option.some.injEq] at hs
      subst hs
      refine ⟨?_, (he.wsOf hx : u.ws S)⟩
      cases d <;> first | (exact (hni _ rfl).elim) | simp [execOp, Instr.makeInterface, run_underlying hd, he.of hx, AV.den]
    · cases hs
  · rename_i f first captured hop
    simp only at hop; subst hop
    split at hs
    · rename_i a b ha hb
      simp only [Option.some.injEq] at hs
      subst hs
      obtain ⟨g1, g2⟩ := aops_sound he _ _ ha
      obtain ⟨g3, g4⟩ := aops_sound he _ _ hb
      refine ⟨?_, g2, g4⟩
      have e1 : first.map ev = (AV.denL ρ a).toArray := by rw [← g1]; apply Array.ext'; simp
      have e2 : captured.map ev = (AV.denL ρ b).toArray := by rw [← g3]; apply Array.ext'; simp
      simp [execOp, Instr.makeFunc, e1, e2, AV.den]
    · cases hs
  · rename_i x xT asserted ok hop
    simp only at hop; subst hop
    split at hs
    · rename_i u hx
      obtain ⟨h1, h2⟩ := aassert_sound (ρ := ρ) (w := w) (xT := xT) (he.wsOf hx) hs
      exact ⟨by simp [execOp, he.of hx, h1], h2⟩
    · cases hs
  · rename_i t m k ok hop
    simp only at hop; subst hop
    split at hs
    · rename_i vm vk hm hk
      obtain ⟨h1, h2⟩ := alookup_sound r hs
      exact ⟨by simp [execOp, he.of hm, he.of hk, h1], ws_mono hS _ h2⟩
    · cases hs
  · rename_i src dst' x hop
    simp only at hop; subst hop
    split at hs
    · rename_i u hx
      split at hs
      · rename_i q hq
        simp only [Option.some.injEq] at hs
        subst hs
        obtain ⟨h1, h2⟩ := aconv_sound r hq
        exact ⟨by simp [execOp, he.of hx, h1], ws_mono hS _ h2⟩
      · exact apure_sound he hs
    · cases hs
  · rename_i op' t x y yt hop
    simp only at hop; subst hop
    split at hs
    · rename_i a b ha hb
      split at hs
      · rename_i q hq
        obtain ⟨h1, h2⟩ := anil_sound (ρ := ρ) (w := w) (S := S) hq op' x y hs
        refine ⟨?_, h2⟩
        simp only [execOp, he.of ha, he.of hb]
        rw [Sem.run_bind, h1]; rfl
      · exact apure_sound he hs
    · cases hs
  · rename_i args argTypes hop
    simp only at hop; subst hop
    split at hs
    · rename_i t u ht hu
      split at hs
      · rename_i q hq
        simp only [Option.some.injEq] at hs
        subst hs
        cases hx : args[0]? with
        | none => simp [hx] at hu
        | some x =>
          simp only [hx, Option.bind_some] at hu
          have h0 : (args.map ev)[0]? = some (u.den ρ) := by simp [hx, he.of hu]
          obtain ⟨h1, h2⟩ := alen_sound (P := P) r (ts := argTypes) (ty := type) ht h0 hq
          refine ⟨?_, ws_mono hS _ h2⟩
          simp only [execOp, resolve, Sem.run_bind, Sem.run_pure, Result.andThen_ok, invoke, builtin, h1]
      · exact apure_sound he hs
    · cases hs
  · exact apure_sound he hs
end
end Go.Sx
namespace Go.Sx
open Go Go.RowKit

/-- the world with one block replaced -/
def wset (w : World) (b : Nat) (o : Obj) : World := { w with heap := w.heap.setIfInBounds b o }

theorem wset_wset (w : World) (b : Nat) (o o' : Obj) : wset (wset w b o) b o' = wset w b o' := by
  simp [wset]
theorem wset_get (w : World) (b : Nat) (o : Obj) (hb : b < w.heap.size) : (wset w b o).heap[b]? = some o := by
  simp [wset, hb]
theorem wset_ne (w : World) {b b' : Nat} (o : Obj) (hb : b' ≠ b) : (wset w b o).heap[b']? = w.heap[b']? := by
  simp [wset, Array.getElem?_setIfInBounds_ne (Ne.symm hb)]
theorem wset_size (w : World) (b : Nat) (o : Obj) : (wset w b o).heap.size = w.heap.size := by simp [wset]
theorem wset_self (w : World) (b : Nat) (o : Obj) (h : w.heap[b]? = some o) : wset w b o = w := by
  unfold wset
  have : w.heap.setIfInBounds b o = w.heap := by
    apply Array.ext_getElem?
    intro i
    by_cases e : i = b
    · subst e
      have := (Array.getElem?_eq_some_iff.1 h).1
      rw [Array.getElem?_setIfInBounds_self_of_lt this, h]
    · rw [Array.getElem?_setIfInBounds_ne (Ne.symm e)]
  rw [this]

theorem setCell_wset (w : World) (b x : Nat) (v : Value) {cs : Array Value} {E : TypeId} {fz : Nat × Nat} (h : w.heap[b]? = some (.cells cs E fz)) :
    w.setCell ⟨b, x, none⟩ v = wset w b (.cells (cs.setIfInBounds x v) E fz) := by
  unfold World.setCell wset
  congr 1
  apply Array.ext_getElem?
  intro i
  rw [Array.getElem?_modify]
  by_cases e : b = i
  · subst e
    have hlt := (Array.getElem?_eq_some_iff.1 h).1
    rw [if_pos rfl, Array.getElem?_setIfInBounds_self_of_lt hlt, h]
    rfl
  · rw [if_neg e, Array.getElem?_setIfInBounds_ne e]

def splice {α : Type} (l : List α) (k : Nat) (vs : List α) : List α := l.take k ++ vs ++ l.drop (k + vs.length)

theorem splice_length {α : Type} (l : List α) (k : Nat) (vs : List α) (h : k + vs.length ≤ l.length) : (splice l k vs).length = l.length := by
  simp [splice]; omega

theorem splice_map {α β : Type} (f : α → β) (l : List α) (k : Nat) (vs : List α) : (splice l k vs).map f = splice (l.map f) k (vs.map f) := by
  simp [splice, List.map_take, List.map_drop]

theorem splice_get {α : Type} (l : List α) (k : Nat) (vs : List α) (h : k + vs.length ≤ l.length) (j : Nat) :
    (splice l k vs)[j]? = if j < k then l[j]? else if j < k + vs.length then vs[j - k]? else l[j]? := by
  unfold splice
  have hk : (l.take k).length = k := by simp; omega
  by_cases h1 : j < k
  · rw [if_pos h1, List.append_assoc, List.getElem?_append_left (by omega), List.getElem?_take_of_lt h1]
  · rw [if_neg h1]
    by_cases h2 : j < k + vs.length
    · rw [if_pos h2, List.append_assoc, List.getElem?_append_right (by omega), List.getElem?_append_left (by omega), hk]
    · rw [if_neg h2, List.getElem?_append_right (by simp; omega), List.getElem?_drop]
      congr 1
      simp; omega

theorem run_storeCells_blk (P : Program) (b o : Nat) (E : TypeId) (fz : Nat × Nat) : ∀ (vs : List Value) (i : Nat) (cs : Array Value) (w : World),
    w.heap[b]? = some (.cells cs E fz) → o + i + vs.length ≤ cs.size → (∀ x, x < cs.size → ¬ (fz.1 ≤ x ∧ x < fz.2)) → (∀ v, v ∈ vs → v.oneCell' = true) →
    (storeCells ⟨b, o, none⟩ vs i).run P w = .ok () (wset w b (.cells (splice cs.toList (o + i) vs).toArray E fz))
  | [], i, cs, w, h, _, _, _ => by
    have : splice cs.toList (o + i) [] = cs.toList := by simp [splice]
    simp only [storeCells, Sem.run_pure, this]
    rw [wset_self]
    simpa using h
  | v :: vs, i, cs, w, h, hle, hfz, hone => by
    simp only [List.length_cons] at hle
    have ha : (⟨b, o, none⟩ : Addr).add i = ⟨b, o + i, none⟩ := by
      unfold Addr.add; split
      · rename_i h0; subst h0; rfl
      · rfl
    have hcell : ∃ u, w.cell? ⟨b, o + i, none⟩ = some u := by
      refine ⟨cs[o + i]'(by omega), ?_⟩
      simp only [World.cell?, h]
      simp [Array.getElem?_eq_getElem (show o + i < cs.size by omega)]
    obtain ⟨u, hu⟩ := hcell
    have hfr : w.frozen? ⟨b, o + i, none⟩ = false := by
      simp only [World.frozen?, h]
      have := hfz (o + i) (by omega)
      simp only [Bool.and_eq_false_iff, decide_eq_false_iff_not]
      by_cases q : fz.1 ≤ o + i
      · exact .inr (fun q2 => this ⟨q, q2⟩)
      · exact .inl q
    have hv := hone v (List.mem_cons_self ..)
    simp only [storeCells, ha, Sem.run_bind, run_store P w ⟨b, o + i, none⟩ v .plain hv, hu, hfr, Bool.false_eq_true, if_false, Result.andThen_ok]
    rw [setCell_wset w b (o + i) v h]
    have hb := (Array.getElem?_eq_some_iff.1 h).1
    rw [run_storeCells_blk P b o E fz vs (i + 1) (cs.setIfInBounds (o + i) v) _ (wset_get _ _ _ hb) (by simp; omega) (by simpa using hfz) (fun x hx => hone x (List.mem_cons_of_mem _ hx)), wset_wset]
    congr 3
    apply Array.ext'
    simp only [List.toList_toArray, Array.toList_setIfInBounds]
    apply List.ext_getElem?
    intro j
    rw [splice_get _ _ _ (by simp; omega), splice_get _ _ _ (by simp; omega)]
    simp only [List.length_cons]
    by_cases h1 : j < o + i
    · rw [if_pos (by omega), if_pos h1, List.getElem?_set_ne (by omega)]
    · rw [if_neg h1]
      by_cases h2 : j = o + i
      · subst h2
        rw [if_pos (by omega), if_pos (by omega)]
        simp
        rw [List.getElem?_set_self (by simp; omega)]
      · rw [if_neg (by omega)]
        by_cases h3 : j < o + (i + 1) + vs.length
        · rw [if_pos h3, if_pos (by omega)]
          rw [show j - (o + i) = (j - (o + (i + 1))) + 1 by omega]
          simp
        · rw [if_neg h3, if_neg (by omega), List.getElem?_set_ne (by omega)]

theorem den_one (ρ : Env) {v : AV} (h : v.leaf = true) : (v.den ρ).oneCell' = true := by
  obtain ⟨h1, h2⟩ := den_leaf ρ v h
  cases hd : v.den ρ <;> first | rfl | (exact absurd hd (h1 _)) | (exact absurd hd (h2 _))

/-- write cells of an owned object -/
def aput? (h : AHeap) (i off : Nat) (vs : List AV) : Option AHeap :=
  match h.get i with
  | some (.cells c false esz) => if off + vs.length ≤ c.length ∧ vs.all AV.leaf = true then some (h.set i (.cells (splice c off vs) false esz)) else none
  | _ => none

section
variable {N : Nat} {G : Nat → Option Nat} {ρ : Env} {h h' : AHeap} {w : World} {P : Program}

theorem aput?_sound (r : R N G ρ h w) {i off : Nat} {vs : List AV} (hw : AV.wsL (below h.n) vs) (hs : aput? h i off vs = some h') :
    ∃ w', (storeCells (pAddr ρ i off) (AV.denL ρ vs)).run P w = .ok () w' ∧ R N G ρ h' w' ∧ Stp ρ h w ρ h' w' := by
  unfold aput? at hs
  split at hs
  case h_2 => cases hs
  rename_i c esz hi
  split at hs
  case isFalse => cases hs
  rename_i hc
  obtain ⟨hle, hleaf⟩ := hc
  simp only [Option.some.injEq] at hs
  subst hs
  obtain ⟨cs, E, fz, g1, g2, g3, g4, g5⟩ := r.fits i _ hi
  have hb := (Array.getElem?_eq_some_iff.1 g1).1
  have hlen : (AV.denL ρ vs).length = vs.length := by simp [denL_map]
  have hrun := run_storeCells_blk P (ρ i).b ((ρ i).o + off) E fz (AV.denL ρ vs) 0 cs w g1 (by rw [hlen]; omega) g4 (fun v hv => by
    rw [denL_map, List.mem_map] at hv
    obtain ⟨u, hu, rfl⟩ := hv
    exact den_one ρ (List.all_eq_true.1 hleaf u hu))
  rw [pAddr_sp g5]
  refine ⟨_, hrun, ?_⟩
  refine r.set hi rfl rfl ?_ (fun b hne => wset_ne _ _ hne) (wset_size _ _ _) rfl rfl rfl ?_
  · show AV.wsL (below h.n) (splice c off vs)
    rw [wsL_iff]
    intro v hv
    simp only [splice, List.mem_append] at hv
    rcases hv with (hv | hv) | hv
    · exact (wsL_iff _ _).1 (r.ws i _ hi) v (List.mem_of_mem_take hv)
    · exact (wsL_iff _ _).1 hw v hv
    · exact (wsL_iff _ _).1 (r.ws i _ hi) v (List.mem_of_mem_drop hv)
  · refine ⟨_, E, fz, wset_get _ _ _ hb, ?_, ?_, ?_, g5⟩
    · intro j v hj
      have hle2 : off + vs.length ≤ c.length := hle
      rw [splice_get _ _ _ hle2] at hj
      simp only [List.getElem?_toArray, Nat.add_zero]
      rw [splice_get _ _ _ (by rw [hlen]; simp; omega), hlen]
      by_cases h1 : j < off
      · rw [if_pos h1] at hj
        rw [if_pos (by omega)]
        simpa using g2 j v hj
      · rw [if_neg h1] at hj
        rw [if_neg (by omega)]
        by_cases h2 : j < off + vs.length
        · rw [if_pos h2] at hj
          rw [if_pos (by omega), show (ρ i).o + j - ((ρ i).o + off) = j - off by omega]
          exact denL_get hj
        · rw [if_neg h2] at hj
          rw [if_neg (by omega)]
          simpa using g2 j v hj
    · rw [splice_length _ _ _ hle]
      simp only [Nat.add_zero, List.size_toArray]
      rw [splice_length _ _ _ (by rw [hlen]; simp; omega)]
      simpa using g3
    · simp only [List.size_toArray]
      rw [splice_length _ _ _ (by rw [hlen]; simp; omega)]
      simpa using g4
end
end Go.Sx
namespace Go.Sx
open Go Go.RowKit

/-- n times the zero's cells -/
def azeros (z : List AV) : Nat → List AV
  | 0 => []
  | n + 1 => z ++ azeros z n

/-- the first cells of a slice that is a source -/
def asource (h : AHeap) (size : Nat) (x : AV) (n : Nat) : Option (List AV) :=
  match x with
  | .slice a _ _ z _ =>
    if n = 0 then some []
    else match a, z with
      | some (i, off), none => cellsAt h i off (n * size)
      | _, _ => none
  | _ => none

def aslen : AV → Option Nat
  | .slice _ n _ _ _ => some n
  | _ => none

def aappend (P : Program) (h : AHeap) (sT xT : TypeId) (s x : AV) : Option (AV × AHeap) :=
  match P.underlying sT, P.underlying xT, s, aslen x with
  | some (.slice el), some (.slice _), .slice base len cap z op, some m =>
    match P.info? el, azero P el with
    | some inf, some zr =>
      if zr.cells.length = inf.size then
      match asource h inf.size x m with
      | none => none
      | some xs =>
        let need := len + m
        if need ≤ cap then
          if m = 0 then some (.slice base need cap z op, h)
          else match base, z with
            | some (i, off), none => match aput? h i (off + len * inf.size) xs with
              | some h' => some (.slice base need cap z op, h')
              | none => none
            | _, _ => none
        else if need ≤ 2 ^ 40 ∧ inf.bytes ≤ 2 ^ 30 ∧ need * inf.bytes ≤ 2 ^ 40 then
          match asource h inf.size s len with
          | none => none
          | some old =>
            match base, op with
            | none, _ => some (.slice (some (h.n, 0)) need need none true, h.alloc (.cells (old ++ xs) false inf.size))
            | some _, false => some (.slice (some (h.n, 0)) need need none true, h.alloc (.cells (old ++ xs) false inf.size))
            | some (i, off), true => match h.get i with
              | some (.cells c false esz) =>
                if esz = inf.size ∧ off + cap * inf.size = c.length ∧ xs.all AV.leaf = true then
                  some (.slice (some (h.n, 0)) need need none true, (h.set i .dead).alloc (.cells (old ++ xs) false inf.size))
                else none
              | _ => none
        else none
      else none
    | _, _ => none
  | _, _, _, _ => none

def acopy (P : Program) (h : AHeap) (dT : TypeId) (d x : AV) : Option (AV × AHeap) :=
  match P.underlying dT, d, aslen x with
  | some (.slice el), .slice base dLen _ z _, some m =>
    match P.info? el with
    | some inf =>
      let n := min m dLen
      match asource h inf.size x n with
      | none => none
      | some xs =>
        if n = 0 then some (.int .i64 0, h)
        else match base, z with
          | some (i, off), none => match aput? h i off xs with
            | some h' => some (.int .i64 n, h')
            | none => none
          | _, _ => none
    | none => none
  | _, _, _ => none

def amapUpdate (P : Program) (h : AHeap) (t : TypeId) (m k v : AV) : Option AHeap :=
  match P.underlying t with
  | some (.map kt _) =>
    match P.underlying kt, m with
    | some kd, .map (some i) =>
      match h.get i with
      | some (.map es) =>
        if keyFits kd k then
          match afind k es with
          | some (some (j, _)) => some (h.set i (.map (es.set j (k, v))))
          | some none => some (h.set i (.map (es ++ [(k, v)])))
          | none => none
        else none
      | _ => none
    | _, _ => none
  | _ => none

def abuildSlice (P : Program) (h : AHeap) (t : TypeId) (len : Nat) (parts : List (Nat × AV)) : Option (AV × AHeap) :=
  match P.underlying t with
  | some (.slice el) =>
    match P.info? el, azero P el with
    | some inf, some zr =>
      if zr.cells.length = inf.size ∧ len * inf.size ≤ 2 ^ 24 then
        match afill (fun i => some (i * inf.size, inf.size)) (azeros zr.cells len) parts with
        | some cs => some (.slice (some (h.n, 0)) len len none false, h.alloc (.cells cs false inf.size))
        | none => none
      else none
    | _, _ => none
  | _ => none

def amakeSlice (P : Program) (h : AHeap) (t : TypeId) (l c : AV) : Option (AV × AHeap) :=
  match P.underlying t, l, c with
  | some (.slice el), .int _ l, .int _ c =>
    match P.info? el, azero P el with
    | some inf, some zr =>
      if zr.cells.length = inf.size ∧ 0 ≤ l ∧ l ≤ c ∧ c ≤ 2 ^ 40 ∧ inf.bytes * c ≤ 2 ^ 40 then
        some (.slice (some (h.n, 0)) l.toNat c.toNat none false, h.alloc (.cells (azeros zr.cells c.toNat) false inf.size))
      else none
    | _, _ => none
  | _, _, _ => none

def amakeChan (P : Program) (h : AHeap) (t : TypeId) (s : AV) : Option (AV × AHeap) :=
  match P.underlying t, s with
  | some (.chan _ el), .int _ n =>
    match P.info? el with
    | some inf => if 0 ≤ n ∧ n ≤ 2 ^ 40 ∧ inf.bytes * n ≤ 2 ^ 40 then some (.chan (some h.n), h.alloc (.chan n.toNat [])) else none
    | none => none
  | _, _ => none

/-- operations that change or make memory: the value left, the heap behind -/
def awrite (P : Program) (e : Operand → Option AV) (h : AHeap) (o : Oper) : Option (AV × AHeap) :=
  match o.op with
  | .alloc el => match azero P el with
    | some z => some (.ptr (some (h.n, 0)), h.alloc (.cells z.cells false 1))
    | none => none
  | .box _ x => match e x with
    | some v => some (.ptr (some (h.n, 0)), h.alloc (.cells v.cells false 1))
    | none => none
  | .store t a x => match e a, e x, P.info? t with
    | some (.ptr (some (i, off))), some v, some inf =>
      if v.cells.length = inf.size then (aput? h i off v.cells).map fun h' => (.tuple [], h') else none
    | _, _, _ => none
  | .buildSlice t len parts => match aparts e parts.toList with
    | some ps => abuildSlice P h t len ps
    | none => none
  | .makeMap _ none => some (.map (some h.n), h.alloc (.map []))
  | .makeChan t s => match e s with
    | some v => amakeChan P h t v
    | none => none
  | .makeSlice t l c => match e l, e c with
    | some l, some c => amakeSlice P h t l c
    | _, _ => none
  | .mapUpdate t m k x => match e m, e k, e x with
    | some m, some k, some x => (amapUpdate P h t m k x).map fun h' => (.tuple [], h')
    | _, _, _ => none
  | .call { callee := .builtin .append, args, argTypes } =>
    match argTypes.toList, aops e args.toList with
    | [sT, xT], some [s, x] => aappend P h sT xT s x
    | _, _ => none
  | .call { callee := .builtin .copy, args, argTypes } =>
    match argTypes.toList, aops e args.toList with
    | [dT, _], some [d, x] => acopy P h dT d x
    | _, _ => none
  | _ => none
end Go.Sx
