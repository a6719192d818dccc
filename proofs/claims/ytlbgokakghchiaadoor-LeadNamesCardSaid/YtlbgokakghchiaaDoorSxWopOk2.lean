/- DERIVED, by an AI agent: a part of the engine 'Sx' (a machine over values and numbered objects, proved sound against the model's calls): no condition. No person has read it. -/
import Derived.Test.YtlbgokakghchiaaDoorSxWopOk
set_option linter.all false
namespace Go.Sx
open Go Go.RowKit

section
variable {N : Nat} {G : Nat → Option Nat} {ρ : Env} {h h' : AHeap} {w : World} {P : Program} {e : Operand → Option AV} {ev : Operand → Value}

theorem acopy_sound (r : R N G ρ h w) {dT ty : TypeId} {d x v : AV} {ts : Array TypeId} (ht : ts[0]? = some dT) (hws : d.ws (below h.n)) (hwx : x.ws (below h.n)) (hs : acopy P h dT d x = some (v, h')) :
    ∃ w', (Builtin.copy_ ts ty #[d.den ρ, x.den ρ]).run P w = .ok (v.den ρ) w' ∧ R N G ρ h' w' ∧ Stp ρ h w ρ h' w' ∧ v.ws (below h'.n) := by
  unfold acopy at hs
  split at hs
  case h_2 => cases hs
  rename_i el base dLen cap z op m hd hm
  split at hs
  case h_2 => cases hs
  rename_i inf hi
  simp only at hs
  split at hs
  case h_1 => cases hs
  rename_i xs hxs
  obtain ⟨x1, x2, x3⟩ := asource_sound (P := P) r hwx hxs
  have hlen := aslen_sound (ρ := ρ) (w := w) (P := P) hm
  obtain ⟨sa, sc, hsd⟩ : ∃ sa sc, (AV.slice base dLen cap z op).den ρ = .slice sa dLen sc := by
    cases base with
    | none => exact ⟨none, cap, rfl⟩
    | some p => obtain ⟨i, off⟩ := p; exact ⟨_, _, rfl⟩
  have hmin : Nat.min m dLen = min m dLen := rfl
  have hrun : (Builtin.copy_ ts ty #[(AV.slice base dLen cap z op).den ρ, x.den ρ]).run P w =
      (do if let some a := sa then storeCells a (AV.denL ρ xs)
          pure (goInt ((min m dLen : Nat) : Int)) : Sem Value).run P w := by
    rw [hsd]
    simp only [Builtin.copy_, ht, List.getElem?_toArray, List.getElem?_cons_zero, List.getElem?_cons_succ, Sem.run_bind, run_underlying hd, Result.andThen_ok, run_sizeOf hi, hlen, hmin, x1]
    cases sa <;> simp
  rw [hrun]
  split at hs
  · rename_i h0
    simp only [Option.some.injEq, Prod.mk.injEq] at hs
    obtain ⟨rfl, rfl⟩ := hs
    have hx0 : xs = [] := by apply List.eq_nil_of_length_eq_zero; rw [x3, h0]; simp
    subst hx0
    refine ⟨w, ?_, r, Stp.refl _ _ _, trivial⟩
    rw [h0]
    cases sa <;> simp [AV.denL, storeCells, AV.den, goInt]
  · split at hs
    · rename_i i off
      split at hs
      · rename_i h1 hput
        simp only [Option.some.injEq, Prod.mk.injEq] at hs
        obtain ⟨rfl, rfl⟩ := hs
        obtain ⟨w', p1, p2, p3⟩ := aput?_sound (P := P) r x2 hput
        have hsa : sa = some (pAddr ρ i off) := by
          simp only [AV.den, sAddr, Value.slice.injEq] at hsd
          exact hsd.1.symm
        subst hsa
        refine ⟨w', ?_, p2, p3, trivial⟩
        simp only [Sem.run_bind, p1, Result.andThen_ok, Sem.run_pure]
        rfl
      · cases hs
    · cases hs

theorem findKey_fits {kt : TypeId} {kd : TypeDesc} (hkd : P.underlying kt = some kd) {k : AV} (hf : keyFits kd k = true) {es : List (AV × AV)} {l : List MapEntry}
    (hl : l.map (fun e => (e.key, e.val)) = es.map (fun p => (p.1.den ρ, p.2.den ρ))) {q : Option (Nat × AV)} (hq : afind k es = some q) (w : World) :
    (Instr.findKey kt (k.den ρ) l).run P w = .ok (q.map fun p => (p.1, p.2.den ρ)) w := by
  have h1 := afind_sound (ρ := ρ) hf es l 0 q hl hq
  simp only [Instr.findKey, Sem.run_bind, run_underlying hkd, Result.andThen_ok, h1, Sem.run_pure]
  simp

theorem afind_key {kd : TypeDesc} {k : AV} (hf : keyFits kd k = true) : ∀ (es : List (AV × AV)) (j : Nat) (x : AV), afind k es = some (some (j, x)) → ∃ u, es[j]? = some (k, u)
  | [], j, x, hq => by simp [afind] at hq
  | (k', v) :: es, j, x, hq => by
    simp only [afind] at hq
    split at hq
    · rename_i heq
      simp only [Option.some.injEq, Prod.mk.injEq] at hq
      obtain ⟨rfl, rfl⟩ := hq
      refine ⟨v, ?_⟩
      have : k' = k := by
        unfold akeyEq at heq
        split at heq
        · split at heq
          · rename_i hk; simp only [Option.some.injEq, beq_iff_eq] at heq; rw [hk, heq]
          · cases heq
        · simp only [Option.some.injEq, beq_iff_eq] at heq; rw [heq]
        · cases heq
      rw [this]; rfl
    · split at hq
      · rename_i i y hr
        simp only [Option.some.injEq, Prod.mk.injEq] at hq
        obtain ⟨rfl, rfl⟩ := hq
        obtain ⟨u, hu⟩ := afind_key hf es i y hr
        exact ⟨u, by simpa using hu⟩
      · simp at hq
      · cases hq
    · cases hq

theorem sameBits_key {kd : TypeDesc} {k : AV} (hf : keyFits kd k = true) : Instr.sameBits 10000 (k.den ρ) (k.den ρ) = true := by
  rcases keyFits_spec hf with ⟨_, _, _, rfl, rfl⟩ | ⟨_, rfl, rfl⟩ <;> simp [AV.den, Instr.sameBits]

theorem amapUpdate_sound (r : R N G ρ h w) {t : TypeId} {m k v : AV} (hwk : k.ws (below h.n)) (hwv : v.ws (below h.n)) (hs : amapUpdate P h t m k v = some h') :
    ∃ w', (Instr.mapUpdate t (m.den ρ) (k.den ρ) (v.den ρ)).run P w = .ok () w' ∧ R N G ρ h' w' ∧ Stp ρ h w ρ h' w' := by
  unfold amapUpdate at hs
  split at hs
  case h_2 => cases hs
  rename_i kt el hd
  split at hs
  case h_2 => cases hs
  rename_i kd i hkd
  split at hs
  case h_2 => cases hs
  rename_i es hi
  split at hs
  case isFalse => cases hs
  rename_i hf
  obtain ⟨ents, clk, g1, g2⟩ := r.fits i _ hi
  have hb := (Array.getElem?_eq_some_iff.1 g1).1
  have hg : (getObj (ρ i).b).run P w = .ok (.map ents clk) w := by simp [getObj, Sem.run, g1]
  have hset : ∀ o : Obj, (∀ a b c, o ≠ .cells a b c) → (setObj (ρ i).b o).run P w = .ok () (wset w (ρ i).b o) := fun o ho => by
    simp only [setObj, Sem.run, g1]; rfl
  have hw := r.ws i _ hi
  have fin : ∀ (es' : List (AV × AV)) (ents' : Array MapEntry) (clk' : Nat), ents'.toList.map (fun e => (e.key, e.val)) = es'.map (fun p => (p.1.den ρ, p.2.den ρ)) →
      (∀ p, p ∈ es' → p.1.ws (below h.n) ∧ p.2.ws (below h.n)) → R N G ρ (h.set i (.map es')) (wset w (ρ i).b (.map ents' clk')) ∧ Stp ρ h w ρ (h.set i (.map es')) (wset w (ρ i).b (.map ents' clk')) := by
    intro es' ents' clk' hl hw'
    exact r.set hi rfl rfl hw' (fun b hne => wset_ne _ _ hne) (wset_size _ _ _) rfl rfl rfl ⟨ents', clk', wset_get _ _ _ hb, hl⟩
  have hrun : ∀ q, afind k es = some q → (Instr.mapUpdate t ((AV.map (some i)).den ρ) (k.den ρ) (v.den ρ)).run P w =
      (match q.map (fun (p : Nat × AV) => (p.1, p.2.den ρ)) with
      | some (i', _) => (do
        let key ← Instr.keyThatStays (((ents[i']?).map (fun (x : MapEntry) => x.key)).getD (k.den ρ)) (k.den ρ)
        setObj (ρ i).b (.map (ents.modify i' fun e => { e with key, val := v.den ρ }) clk) : Sem Unit)
      | none => setObj (ρ i).b (.map (ents.push { key := k.den ρ, val := v.den ρ, born := clk }) (clk + 1))).run P w := by
    intro q hq
    have h1 := findKey_fits (ρ := ρ) (P := P) hkd hf g2 hq w
    simp only [Instr.mapUpdate, Sem.run_bind, run_underlying hd, Result.andThen_ok, AV.den, hg, checkKey_fits (ρ := ρ) hkd hf, h1]
    cases q <;> rfl
  split at hs
  · rename_i j x hfd
    simp only [Option.some.injEq] at hs
    subst hs
    rw [hrun _ hfd]
    obtain ⟨u, hu⟩ := afind_key hf es j x hfd
    have hej : (ents[j]?).map (fun e => (e.key, e.val)) = some (k.den ρ, u.den ρ) := by
      have := congrArg (fun l => l[j]?) g2
      simp only [List.getElem?_map, Array.getElem?_toList, hu, Option.map_some] at this
      exact this
    have hkey : ((ents[j]?).map (fun (x : MapEntry) => x.key)).getD (k.den ρ) = k.den ρ := by
      cases he : ents[j]? with
      | none => rfl
      | some q => simp only [he, Option.map_some, Option.some.injEq, Prod.mk.injEq] at hej; simp [hej.1]
    have hstay : (Instr.keyThatStays (k.den ρ) (k.den ρ)).run P w = .ok (k.den ρ) w := by
      simp [Instr.keyThatStays, sameBits_key (ρ := ρ) hf]
    obtain ⟨q1, q2⟩ := fin (es.set j (k, v)) (ents.modify j fun e => { e with key := k.den ρ, val := v.den ρ }) clk (by
      apply List.ext_getElem?
      intro t'
      simp only [List.getElem?_map, Array.getElem?_toList, Array.getElem?_modify, List.getElem?_set]
      have g3 := congrArg (fun l => l[t']?) g2
      simp only [List.getElem?_map, Array.getElem?_toList] at g3
      by_cases e : j = t'
      · subst e
        have hlt : j < es.length := by
          rcases Nat.lt_or_ge j es.length with q | q
          · exact q
          · rw [List.getElem?_eq_none q] at hu; cases hu
        simp only [if_true, hlt]
        cases he : ents[j]? with
        | none => simp [he] at hej
        | some q => simp
      · simp only [e, if_false]; exact g3) (by
      intro p hp
      rcases List.mem_or_eq_of_mem_set hp with hp | rfl
      · exact hw p hp
      · exact ⟨hwk, hwv⟩)
    refine ⟨_, ?_, q1, q2⟩
    simp only [Option.map_some, Sem.run_bind, hkey, hstay, Result.andThen_ok]
    exact hset _ (fun _ _ _ hq => by cases hq)
  · rename_i hfd
    simp only [Option.some.injEq] at hs
    subst hs
    rw [hrun _ hfd]
    obtain ⟨q1, q2⟩ := fin (es ++ [(k, v)]) (ents.push { key := k.den ρ, val := v.den ρ, born := clk }) (clk + 1) (by simp [g2]) (by
      intro p hp
      rcases List.mem_append.1 hp with hp | hp
      · exact hw p hp
      · simp only [List.mem_singleton] at hp; subst hp; exact ⟨hwk, hwv⟩)
    exact ⟨_, hset _ (fun _ _ _ hq => by cases hq), q1, q2⟩
  · cases hs

theorem abuildSlice_sound (r : R N G ρ h w) {t : TypeId} {len : Nat} {ps : List (Nat × AV)} {v : AV} (hw : ∀ p, p ∈ ps → p.2.ws (below h.n)) (hs : abuildSlice P h t len ps = some (v, h')) :
    ∃ ρ' w', (Instr.buildSlice t len (ps.map fun p => (p.1, p.2.den ρ)).toArray).run P w = .ok (v.den ρ') w' ∧ R N G ρ' h' w' ∧ Stp ρ h w ρ' h' w' ∧ v.ws (below h'.n) := by
  unfold abuildSlice at hs
  split at hs
  case h_2 => cases hs
  rename_i el hd
  split at hs
  case h_2 => cases hs
  rename_i inf zr hi hz
  split at hs
  case isFalse => cases hs
  rename_i hc
  obtain ⟨hzl, hsz⟩ := hc
  split at hs
  case h_2 => cases hs
  rename_i cs hf
  simp only [Option.some.injEq, Prod.mk.injEq] at hs
  obtain ⟨rfl, rfl⟩ := hs
  obtain ⟨z1, z2⟩ := azero_sound (ρ := ρ) hz w (below h.n)
  obtain ⟨f1, f2⟩ := afill_sound (ρ := ρ) _ ps _ cs hf (azeros_ws (ws_cells zr z2) len) hw
  obtain ⟨q1, q2⟩ := R.newCells (w' := w.alloc (.cells (AV.denL ρ cs ++ []).toArray el)) r f2 inf.size 0 el [] (by simp) rfl rfl rfl rfl
  refine ⟨_, _, ?_, q1, q2, Nat.lt_succ_self _⟩
  have hinit : ∀ zc : Array Value, (len * inf.size = 0 ∧ zc = #[]) ∨ zc = (zr.den ρ).cells →
      (Array.range (len * inf.size)).map (zc[· % zc.size]!) = (AV.denL ρ (azeros zr.cells len)).toArray := by
    intro zc hzc
    rcases hzc with ⟨h0, rfl⟩ | rfl
    · have : azeros zr.cells len = [] := by
        apply List.eq_nil_of_length_eq_zero; rw [azeros_length, hzl, h0]
      simp [h0, this, AV.denL]
    · rw [den_cells, ← hzl]; exact zeros_eq ρ zr.cells len
  have hgt : ¬ (len * inf.size > 2 ^ 24) := by omega
  have f1' : Instr.fill (fun i => some (i * inf.size, inf.size)) (AV.denL ρ (azeros zr.cells len)).toArray (ps.map fun p => (p.1, p.2.den ρ)) = some (AV.denL ρ cs).toArray := f1
  simp only [Instr.buildSlice, Sem.run_bind, run_underlying hd, Result.andThen_ok, run_sizeOf hi, hgt, if_false, Sem.run_pure]
  by_cases h0 : len * inf.size = 0
  · rw [if_pos h0]
    simp only [Sem.run_bind, Sem.run_pure, Result.andThen_ok]
    rw [hinit #[] (.inl ⟨h0, rfl⟩)]
    simp only [List.toList_toArray, f1', newRow, Sem.run_bind, run_newObj, Sem.run_pure, Result.andThen_ok, AV.den, upd_self, sAddr, pAddr, Bool.false_eq_true, if_false, List.append_nil]
    rfl
  · rw [if_neg h0]
    simp only [Sem.run_bind, z1, Sem.run_pure, Result.andThen_ok]
    rw [hinit _ (.inr rfl)]
    simp only [List.toList_toArray, f1', newRow, Sem.run_bind, run_newObj, Sem.run_pure, Result.andThen_ok, AV.den, upd_self, sAddr, pAddr, Bool.false_eq_true, if_false, List.append_nil]
    rfl
end
end Go.Sx
