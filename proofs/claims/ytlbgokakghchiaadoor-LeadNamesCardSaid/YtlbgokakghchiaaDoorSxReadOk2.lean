/- DERIVED, by an AI agent: a part of the engine 'Sx' (a machine over values and numbered objects, proved sound against the model's calls): no condition. No person has read it. -/
import Derived.Test.YtlbgokakghchiaaDoorSxReadOk
set_option linter.all false
namespace Go.Sx
open Go Go.RowKit

section
variable {N : Nat} {G : Nat → Option Nat} {ρ : Env} {h : AHeap} {S : Nat → Prop} {w : World} {P : Program} {e : Operand → Option AV} {ev : Operand → Value}

theorem aindexAt_sound {t : TypeId} {x ix v : AV} (hw : x.ws S) (hs : aindexAt P t x ix = some v) :
    (Instr.indexAt t (x.den ρ) (ix.den ρ)).run P w = .ok (v.den ρ) w ∧ v.ws S := by
  unfold aindexAt at hs
  split at hs
  · rename_i n el i off kd k hd
    split at hs
    · rename_i inf hi
      split at hs
      · rename_i hc
        simp only [Option.some.injEq] at hs
        subst hs
        refine ⟨?_, hw⟩
        simp [Instr.indexAt, AV.den, asIntOf, run_underlying hd, Instr.sureAddr, hc, run_sizeOf hi, pAddr_add]
      · cases hs
    · cases hs
  · rename_i el i off len cap op kd k hd
    split at hs
    · rename_i inf hi
      split at hs
      · rename_i hc
        simp only [Option.some.injEq] at hs
        subst hs
        refine ⟨?_, hw⟩
        simp [Instr.indexAt, AV.den, asIntOf, run_underlying hd, Instr.sureAddr, hc, run_sizeOf hi, pAddr_add, sAddr]
      · cases hs
    · cases hs
  · cases hs

theorem afieldAt_sound {s : TypeId} {x v : AV} {f : Nat} (hw : x.ws S) (hs : afieldAt P s x f = some v) :
    (Instr.fieldAt s (x.den ρ) f).run P w = .ok (v.den ρ) w ∧ v.ws S := by
  unfold afieldAt at hs
  split at hs
  · rename_i fields i off hd
    split at hs
    · rename_i fd hf
      split at hs
      · rename_i inf hi
        split at hs
        · cases hs
        · rename_i hz
          simp only [Option.some.injEq] at hs
          subst hs
          refine ⟨?_, hw⟩
          simp [Instr.fieldAt, AV.den, run_underlying hd, hf, Instr.sureAddr, fieldPlace, run_sizeOf hi, hz, pAddr_add]
      · cases hs
    · cases hs
  · cases hs

theorem afield_sound {s : TypeId} {x v : AV} {f : Nat} (hw : x.ws S) (hs : afield P s x f = some v) :
    (Instr.field s (x.den ρ) f).run P w = .ok (v.den ρ) w ∧ v.ws S := by
  unfold afield at hs
  split at hs
  · rename_i fields cs hd
    split at hs
    · rename_i fd hf
      obtain ⟨h1, h2⟩ := apart?_sound (ρ := ρ) hw hs w
      refine ⟨?_, h2⟩
      simp [Instr.field, AV.den, run_underlying hd, hf, asAgg, h1]
    · cases hs
  · cases hs

theorem aindex_sound {t : TypeId} {x ix v : AV} (hw : x.ws S) (hs : aindex P t x ix = some v) :
    (Instr.index t (x.den ρ) (ix.den ρ)).run P w = .ok (v.den ρ) w ∧ v.ws S := by
  unfold aindex at hs
  split at hs
  · rename_i n el cs kd k hd
    split at hs
    · rename_i inf hi
      split at hs
      · rename_i hc
        obtain ⟨h1, h2⟩ := apart?_sound (ρ := ρ) hw hs w
        refine ⟨?_, h2⟩
        simp [Instr.index, AV.den, asIntOf, run_underlying hd, hc, run_sizeOf hi, h1]
      · cases hs
    · cases hs
  · cases hs

theorem azero_sound {t : TypeId} {v : AV} (hz : azero P t = some v) (w : World) (n : Nat → Prop) : (zeroValue t).run P w = .ok (v.den ρ) w ∧ v.ws n := by
  unfold azero at hz
  split at hz
  · rename_i inf hi
    split at hz
    · rename_i u hu
      obtain ⟨h1, h2⟩ := den_ofV ρ u v hz
      refine ⟨?_, h2 n⟩
      simp [zeroValue, typeInfo, hi, hu, h1]
    · cases hz
  · cases hz

theorem aparts_sound (he : Evs e ev ρ S) : ∀ (ps : List (Nat × Operand)) (qs : List (Nat × AV)), aparts e ps = some qs →
    ps.map (fun p => (p.1, ev p.2)) = qs.map (fun p => (p.1, p.2.den ρ)) ∧ ∀ p, p ∈ qs → p.2.ws S
  | [], qs, hq => by simp only [aparts, Option.some.injEq] at hq; subst hq; exact ⟨rfl, nofun⟩
  | (i, x) :: r, qs, hq => by
    simp only [aparts] at hq
    split at hq
    · rename_i v vs hv hvs
      simp only [Option.some.injEq] at hq
      subst hq
      obtain ⟨h1, h2⟩ := aparts_sound he r vs hvs
      refine ⟨by simp [he.of hv, h1], ?_⟩
      intro p hp
      simp only [List.mem_cons] at hp
      rcases hp with rfl | hp
      · exact he.wsOf hv
      · exact h2 p hp
    · cases hq

theorem aops_sound (he : Evs e ev ρ S) : ∀ (ps : List Operand) (qs : List AV), aops e ps = some qs →
    ps.map ev = AV.denL ρ qs ∧ AV.wsL S qs
  | [], qs, hq => by simp only [aops, Option.some.injEq] at hq; subst hq; exact ⟨rfl, trivial⟩
  | x :: r, qs, hq => by
    simp only [aops] at hq
    split at hq
    · rename_i v vs hv hvs
      simp only [Option.some.injEq] at hq
      subst hq
      obtain ⟨h1, h2⟩ := aops_sound he r vs hvs
      exact ⟨by simp [he.of hv, h1, AV.denL], he.wsOf hv, h2⟩
    · cases hq

theorem aplaces_sound : ∀ (fs : List Field) (pl : List (Nat × Nat)), aplaces P fs = some pl →
    ∀ w, (fs.mapM fun f => (do pure (f.offset, ← sizeOf f.type) : Sem (Nat × Nat))).run P w = .ok pl w
  | [], pl, hp, w => by simp only [aplaces, Option.some.injEq] at hp; subst hp; rfl
  | f :: fs, pl, hp, w => by
    simp only [aplaces] at hp
    split at hp
    · rename_i inf r hi hr
      simp only [Option.some.injEq] at hp
      subst hp
      have ih := aplaces_sound fs r hr w
      simp only [List.mapM_cons, Sem.run_bind, run_sizeOf hi, Result.andThen_ok, Sem.run_pure, bind_pure_comp, Sem.run_map]
      simp only [bind_pure_comp] at ih
      rw [ih]; rfl
    · cases hp

theorem abuild_sound {t : TypeId} {ps : List (Nat × AV)} {v : AV} (hw : ∀ p, p ∈ ps → p.2.ws S) (hs : abuild P t ps = some v) :
    (Instr.build t (ps.map fun p => (p.1, p.2.den ρ)).toArray).run P w = .ok (v.den ρ) w ∧ v.ws S := by
  unfold abuild at hs
  split at hs
  · rename_i z fields hz hd
    obtain ⟨z1, z2⟩ := azero_sound (ρ := ρ) hz w S
    split at hs
    · rename_i pl hpl
      cases hf : afill (fun i => pl[i]?) z.cells ps with
      | none => simp [hf] at hs
      | some out =>
        simp only [hf, Option.map_some, Option.some.injEq] at hs
        subst hs
        obtain ⟨f1, f2⟩ := afill_sound (ρ := ρ) _ ps z.cells out hf (ws_cells z z2) hw
        refine ⟨?_, f2⟩
        have hm := aplaces_sound (P := P) fields.toList pl hpl w
        have hm' : (fields.mapM fun f => (do pure (f.offset, ← sizeOf f.type) : Sem (Nat × Nat))).run P w = .ok pl.toArray w := by
          rw [← Array.toArray_toList (xs := fields), List.mapM_toArray]
          simp only [Sem.run_map, hm, Result.andThen_ok]
        have hg : (fun (i : Nat) => pl.toArray[i]?) = fun (i : Nat) => pl[i]? := by funext i; simp
        simp only [Instr.build, Sem.run_bind, z1, Result.andThen_ok, run_underlying hd, hm', den_cells, f1, List.toList_toArray, hg]
        rfl
    · cases hs
  · rename_i z n el hz hd
    obtain ⟨z1, z2⟩ := azero_sound (ρ := ρ) hz w S
    split at hs
    · rename_i inf hi
      cases hf : afill (fun i => some (i * inf.size, inf.size)) z.cells ps with
      | none => simp [hf] at hs
      | some out =>
        simp only [hf, Option.map_some, Option.some.injEq] at hs
        subst hs
        obtain ⟨f1, f2⟩ := afill_sound (ρ := ρ) _ ps z.cells out hf (ws_cells z z2) hw
        refine ⟨?_, f2⟩
        simp only [Instr.build, Sem.run_bind, z1, Result.andThen_ok, run_underlying hd, run_sizeOf hi, den_cells, f1, List.toList_toArray]
        rfl
    · cases hs
  · cases hs

theorem aassert_sound {x v : AV} {xT asserted : TypeId} {ok : Bool} (hw : x.ws S) (hs : aassert P x asserted ok = some v) :
    (Instr.typeAssert (x.den ρ) xT asserted ok).run P w = .ok (v.den ρ) w ∧ v.ws S := by
  unfold aassert at hs
  split at hs
  · cases hs
  · cases hs
  · rename_i d hni hd
    cases x <;> simp only [reduceCtorEq] at hs
    · rename_i t u
      by_cases ht : t = asserted
      · simp only [ht, if_true, Option.some.injEq] at hs
        subst hs
        cases ok <;> refine ⟨?_, ?_⟩
        · cases d <;> first | (exact (hni _ rfl).elim) | simp [Instr.typeAssert, run_underlying hd, AV.den, ht]
        · exact hw
        · cases d <;> first | (exact (hni _ rfl).elim) | simp [Instr.typeAssert, run_underlying hd, AV.den, ht, AV.denL]
        · exact ⟨hw, trivial, trivial⟩
      · simp only [ht, if_false] at hs
        cases ok with
        | false => simp at hs
        | true =>
          simp only [if_true] at hs
          cases hz : azero P asserted with
          | none => simp [hz] at hs
          | some z =>
            simp only [hz, Option.map_some, Option.some.injEq] at hs
            subst hs
            obtain ⟨z1, z2⟩ := azero_sound (ρ := ρ) hz w S
            refine ⟨?_, ⟨z2, trivial, trivial⟩⟩
            cases d <;> first | (exact (hni _ rfl).elim) | simp [Instr.typeAssert, run_underlying hd, AV.den, ht, z1, AV.denL]
    · cases ok with
      | false => simp at hs
      | true =>
        simp only [if_true] at hs
        cases hz : azero P asserted with
        | none => simp [hz] at hs
        | some z =>
          simp only [hz, Option.map_some, Option.some.injEq] at hs
          subst hs
          obtain ⟨z1, z2⟩ := azero_sound (ρ := ρ) hz w S
          refine ⟨?_, ⟨z2, trivial, trivial⟩⟩
          cases d <;> first | (exact (hni _ rfl).elim) | simp [Instr.typeAssert, run_underlying hd, AV.den, z1, AV.denL]

theorem bytes_loop (P : Program) (w : World) (f : Value → ByteArray → Sem (ForInStep ByteArray))
    (hf : ∀ (n : Int) (r : ByteArray), (f (.int .u8 n) r).run P w = .ok (.yield (r.push (UInt8.ofNat n.toNat))) w) :
    ∀ (cs : List AV) (s out : ByteArray), abytes cs s = some out → (forIn (AV.denL ρ cs) s f).run P w = .ok out w
  | [], s, out, hb => by simp only [abytes, Option.some.injEq] at hb; subst hb; simp [AV.denL]
  | v :: r, s, out, hb => by
    unfold abytes at hb
    split at hb
    · rename_i heq; cases heq
    · rename_i n r' s' heq
      simp only [List.cons.injEq] at heq
      obtain ⟨rfl, rfl⟩ := heq
      have ih := bytes_loop P w f hf r _ out hb
      simp only [AV.denL, AV.den, List.forIn_cons, Sem.run_bind, hf, Result.andThen]
      exact ih
    · cases hb

theorem aconv_sound (r : R N G ρ h w) {src dst : TypeId} {x v : AV} (hs : aconv P h src dst x = some v) :
    (convert src dst (x.den ρ)).run P w = .ok (v.den ρ) w ∧ v.ws (below h.n) := by
  unfold aconv at hs
  split at hs
  · rename_i el i off len cap op h1 h2
    split at hs
    · rename_i h3
      split at hs
      · rename_i cs hc
        cases hb : abytes cs .empty with
        | none => simp [hb] at hs
        | some s =>
          simp only [hb, Option.map_some, Option.some.injEq] at hs
          subst hs
          refine ⟨?_, trivial⟩
          obtain ⟨c1, c2, c3⟩ := cellsAt_sound (P := P) r hc
          simp only [convert, run_underlying h1, run_underlying h2, run_underlying h3, Sem.run_bind, Result.andThen_ok, AV.den, sAddr, Conv.bytesToString, c1, List.forIn_toArray]
          rw [bytes_loop (ρ := ρ) P w _ (by intro n r; simp [Sem.run_pure]) cs .empty s hb]; rfl
      · cases hs
    · cases hs
  · cases hs
end
end Go.Sx
