/- DERIVED, by an AI agent: a part of the engine 'Sx' (a machine over values and numbered objects, proved sound against the model's calls): no condition. No person has read it. -/
import Derived.Test.YtlbgokakghchiaaDoorSxWop
set_option linter.all false
namespace Go.Sx
open Go Go.RowKit

section
variable {N : Nat} {G : Nat → Option Nat} {ρ : Env} {h h' : AHeap} {w : World} {P : Program} {e : Operand → Option AV} {ev : Operand → Value}

/-- a new row of cells, with something behind them -/
theorem R.newCells (r : R N G ρ h w) {c : List AV} (hw : AV.wsL (below h.n) c) (esz sl : Nat) (E : TypeId) (extra : List Value) (hsl : sl * esz ≤ extra.length) {w' : World}
    (hh : w'.heap = w.heap.push (.cells (AV.denL ρ c ++ extra).toArray E)) (e1 : w'.os = w.os) (e2 : w'.tape = w.tape) (e3 : w'.output = w.output) :
    R N G (upd ρ h.n ⟨w.heap.size, 0, sl⟩) (h.alloc (.cells c false esz)) w' ∧ Stp ρ h w (upd ρ h.n ⟨w.heap.size, 0, sl⟩) (h.alloc (.cells c false esz)) w' := by
  refine r.alloc sl hh e1 e2 e3 hw rfl ?_
  refine ⟨(AV.denL ρ c ++ extra).toArray, E, (0, 0), ?_, ?_, ?_, ?_⟩
  · rw [upd_self, hh]; simp
  · intro j v hj
    rw [upd_self, den_ext (Ext.upd ρ h.n _) v (wsL_get hw hj)]
    have h1 := denL_get (ρ := ρ) hj
    have h2 : j < (AV.denL ρ c).length := by
      rcases Nat.lt_or_ge j (AV.denL ρ c).length with q | q
      · exact q
      · rw [List.getElem?_eq_none q] at h1; cases h1
    simp only [Nat.zero_add, List.getElem?_toArray]
    rw [List.getElem?_append_left h2]; exact h1
  · rw [upd_self]
    simp only [List.size_toArray, List.length_append, denL_map, List.length_map]
    omega
  · intro x _ hx; omega

theorem azeros_length (z : List AV) : ∀ n, (azeros z n).length = n * z.length
  | 0 => by simp [azeros]
  | n + 1 => by simp [azeros, azeros_length z n, Nat.succ_mul]; omega

theorem azeros_ws {n : Nat → Prop} {z : List AV} (hz : AV.wsL n z) : ∀ k, AV.wsL n (azeros z k)
  | 0 => trivial
  | k + 1 => by
    rw [wsL_iff]
    intro v hv
    simp only [azeros, List.mem_append] at hv
    rcases hv with hv | hv
    · exact (wsL_iff _ _).1 hz v hv
    · exact (wsL_iff _ _).1 (azeros_ws hz k) v hv

theorem azeros_get (z : List AV) (hz : 0 < z.length) : ∀ (n i : Nat), i < n * z.length → (azeros z n)[i]? = z[i % z.length]?
  | 0, i, h => by simp at h
  | n + 1, i, h => by
    simp only [azeros]
    rw [Nat.succ_mul] at h
    by_cases hi : i < z.length
    · rw [List.getElem?_append_left hi, Nat.mod_eq_of_lt hi]
    · rw [List.getElem?_append_right (by omega), azeros_get z hz n (i - z.length) (by omega), ← Nat.mod_eq_sub_mod (by omega)]

/-- the model's way of writing zeros -/
theorem zeros_eq (ρ : Env) (z : List AV) (n : Nat) : ((Array.range (n * z.length)).map ((AV.denL ρ z).toArray[· % (AV.denL ρ z).toArray.size]!)) = (AV.denL ρ (azeros z n)).toArray := by
  have hl : (AV.denL ρ z).toArray.size = z.length := by simp [denL_map]
  by_cases hz : 0 < z.length
  · apply Array.ext_getElem?
    intro i
    simp only [Array.getElem?_map, hl, List.getElem?_toArray]
    by_cases hi : i < n * z.length
    · have h1 := azeros_get z hz n i hi
      have hm : i % z.length < z.length := Nat.mod_lt _ hz
      have h2 : z[i % z.length]? = some (z[i % z.length]'hm) := List.getElem?_eq_getElem hm
      rw [h2] at h1
      rw [denL_get h1]
      have h4 : (Array.range (n * z.length))[i]? = some i := by simp [hi]
      rw [h4]
      simp only [Option.map_some, Option.some.injEq]
      have h3 := denL_get (ρ := ρ) h2
      rw [getElem!_def]
      simp only [List.getElem?_toArray, h3]
    · have h1 : (azeros z n)[i]? = none := List.getElem?_eq_none (by rw [azeros_length]; omega)
      have h2 : (AV.denL ρ (azeros z n))[i]? = none := List.getElem?_eq_none (by simp [denL_map, azeros_length]; omega)
      rw [h2]
      simp; omega
  · have h0 : z = [] := by cases z with | nil => rfl | cons _ _ => simp at hz
    subst h0
    have : azeros [] n = [] := by
      have := azeros_length [] n
      simpa using this
    simp [this, AV.denL]

theorem asource_sound (r : R N G ρ h w) {x : AV} {n size : Nat} {xs : List AV} (hw : x.ws (below h.n)) (hs : asource h size x n = some xs) :
    (Builtin.firstCells size n (x.den ρ)).run P w = .ok (AV.denL ρ xs).toArray w ∧ AV.wsL (below h.n) xs ∧ xs.length = n * size := by
  unfold asource at hs
  split at hs
  case h_2 => cases hs
  rename_i a len cap z op
  split at hs
  · rename_i h0
    simp only [Option.some.injEq] at hs
    subst hs
    subst h0
    refine ⟨?_, trivial, by simp⟩
    cases a with
    | none => simp [AV.den, Builtin.firstCells, AV.denL]
    | some p => obtain ⟨i, off⟩ := p; simp [AV.den, Builtin.firstCells, AV.denL, loadCells, loadCellsFrom]
  · split at hs
    · rename_i i off
      obtain ⟨h1, h2, h3⟩ := cellsAt_sound (P := P) r hs
      refine ⟨?_, h2, h3⟩
      simp [AV.den, Builtin.firstCells, sAddr, h1]
    · cases hs

theorem aslen_sound {x : AV} {m : Nat} (hs : aslen x = some m) : (Builtin.lenOf (x.den ρ)).run P w = .ok m w := by
  unfold aslen at hs
  split at hs
  · rename_i a n cap z op
    simp only [Option.some.injEq] at hs
    subst hs
    cases a with
    | none => simp [AV.den, Builtin.lenOf]
    | some p => obtain ⟨i, off⟩ := p; simp [AV.den, Builtin.lenOf]
  · cases hs

theorem growBy_le (L : Nat) : ∀ (n c : Nat), Builtin.growBy L n c ≤ max c (2 * L + 192)
  | 0, c => by simp only [Builtin.growBy]; omega
  | n + 1, c => by
    simp only [Builtin.growBy]
    split
    · omega
    · have := growBy_le L n (c + (c + 768) / 4)
      omega

theorem nextcap_le (need old : Nat) (h : old < need) : Builtin.nextslicecap need old ≤ 2 * need + 512 := by
  unfold Builtin.nextslicecap
  split
  · omega
  · split
    · omega
    · have := growBy_le need 4 old
      omega

/-- an owned object is forgotten -/
theorem R.kill (r : R N G ρ h w) {i : Nat} {o : AObj} (hi : h.get i = some o) (ho : o.own = true) : R N G ρ (h.set i .dead) w ∧ Stp ρ h w ρ (h.set i .dead) w :=
  r.set hi ho rfl trivial (fun _ _ => rfl) rfl rfl rfl rfl trivial

theorem R.heap_eq' (r : R N G ρ h w) {w' : World} (e : w'.heap = w.heap) : R N G ρ h w' := R.heap_eq e r

theorem R.drawn (r : R N G ρ h w) (d : Nat) : R N G ρ h { w with drawn := d } := R.heap_eq (w := w) rfl r


theorem append_cap {need cap bytes : Nat} (hn : cap < need) (h1 : bytes ≤ 2 ^ 30) (h2 : need * bytes ≤ 2 ^ 40) : ¬ (Builtin.nextslicecap need cap * bytes > 2 ^ 48) := by
  have h3 := nextcap_le need cap hn
  have h4 : Builtin.nextslicecap need cap * bytes ≤ (2 * need + 512) * bytes := Nat.mul_le_mul_right _ h3
  have h5 : (2 * need + 512) * bytes = 2 * (need * bytes) + 512 * bytes := by rw [Nat.add_mul, Nat.mul_assoc]
  omega

theorem denL_append (ρ : Env) (a b : List AV) : AV.denL ρ (a ++ b) = AV.denL ρ a ++ AV.denL ρ b := by simp [denL_map]

theorem wsL_append {n : Nat → Prop} {a b : List AV} (ha : AV.wsL n a) (hb : AV.wsL n b) : AV.wsL n (a ++ b) :=
  (wsL_iff _ _).2 fun v hv => by
    rcases List.mem_append.1 hv with q | q
    · exact (wsL_iff _ _).1 ha v q
    · exact (wsL_iff _ _).1 hb v q

/-- a block that nobody owns is taken over by a new object -/
theorem R.adopt (r : R N G ρ h w) {w' : World} {o : AObj} (p : Place) (hN : N ≤ p.b) (hfree : ¬ Owned ρ h p.b)
    (hk : ∀ b, b ≠ p.b → w'.heap[b]? = w.heap[b]?) (hs : w'.heap.size = w.heap.size) (hws : o.ws (below h.n)) (hro : o.ro = false)
    (hf : Fits (upd ρ h.n p) w' h.n o) : R N G (upd ρ h.n p) (h.alloc o) w' := by
  have hext := Ext.upd ρ h.n p
  have hget : ∀ i o', (h.alloc o).get i = some o' → (i = h.n ∧ o' = o) ∨ (i ≠ h.n ∧ h.get i = some o') := fun i o' hi => by
    by_cases e : i = h.n
    · subst e; rw [AHeap.get_alloc_self] at hi; exact .inl ⟨rfl, (Option.some.inj hi).symm⟩
    · rw [AHeap.get_alloc_ne _ _ e] at hi; exact .inr ⟨e, hi⟩
  refine ⟨?_, ?_, ?_, ?_, ?_, ?_, ?_, ?_⟩
  · intro i o' hi
    rcases hget i o' hi with ⟨rfl, rfl⟩ | ⟨_, hi⟩
    · exact Nat.lt_succ_self _
    · exact Nat.lt_succ_of_lt (r.lt i o' hi)
  · intro i o' hi
    rcases hget i o' hi with ⟨rfl, rfl⟩ | ⟨_, hi⟩
    · exact AObj.ws_mono (fun _ hi => Nat.lt_succ_of_lt hi) _ hws
    · exact AObj.ws_mono (fun _ hi => Nat.lt_succ_of_lt hi) _ (r.ws i o' hi)
  · intro i o' hi
    rcases hget i o' hi with ⟨rfl, rfl⟩ | ⟨_, hi⟩
    · exact hf
    · have hkeep : (ρ i).b ≠ p.b → Fits (upd ρ h.n p) w' i o' := fun hb =>
        Fits.keep hext (r.lt i o' hi) (r.ws i o' hi) (fun ob hob => by rw [hk _ hb]; exact hob) (r.fits i o' hi)
      by_cases hq : o'.own = true
      · exact hkeep fun e => hfree ⟨i, o', hi, hq, e⟩
      · cases o' with
        | dead => trivial
        | cells c ro esz =>
          cases ro with
          | false => simp [AObj.own, AObj.live, AObj.ro] at hq
          | true =>
            have h1 := r.low i _ hi rfl
            exact hkeep (by omega)
        | map es => simp [AObj.own, AObj.live, AObj.ro] at hq
        | chan cap buf => simp [AObj.own, AObj.live, AObj.ro] at hq
  · intro i o' hi h1
    rcases hget i o' hi with ⟨rfl, rfl⟩ | ⟨he, hi⟩
    · rw [hro] at h1; cases h1
    · rw [upd_ne _ _ he]; exact r.low i o' hi h1
  · intro i o' hi h1
    rcases hget i o' hi with ⟨rfl, rfl⟩ | ⟨he, hi⟩
    · rw [upd_self]; exact hN
    · rw [upd_ne _ _ he]; exact r.high i o' hi h1
  · intro i j o' q hi hj hne h1 h2
    rcases hget i o' hi with ⟨ei, _⟩ | ⟨he, hi'⟩
    · rcases hget j q hj with ⟨ej, _⟩ | ⟨he', hj'⟩
      · exact absurd (ei.trans ej.symm) hne
      · rw [ei, upd_self, upd_ne _ _ he']
        exact fun e => hfree ⟨j, q, hj', h2, e.symm⟩
    · rcases hget j q hj with ⟨ej, _⟩ | ⟨he', hj'⟩
      · rw [ej, upd_self, upd_ne _ _ he]
        exact fun e => hfree ⟨i, o', hi', h1, e⟩
      · rw [upd_ne _ _ he, upd_ne _ _ he']; exact r.apart i j o' q hi' hj' hne h1 h2
  · rw [hs]; exact r.base
  · intro g i hg
    obtain ⟨h1, h2, h3⟩ := r.glob g i hg
    rw [upd_ne _ _ (Nat.ne_of_lt h1)]
    exact ⟨Nat.lt_succ_of_lt h1, h2, h3⟩

theorem aappend_sound (r : R N G ρ h w) {sT xT ty : TypeId} {s x v : AV} {ts : Array TypeId} (ht : ts.toList = [sT, xT]) (hws : s.ws (below h.n)) (hwx : x.ws (below h.n)) (hs : aappend P h sT xT s x = some (v, h')) :
    ∃ ρ' w', (Builtin.append_ ts ty #[s.den ρ, x.den ρ]).run P w = .ok (v.den ρ') w' ∧ R N G ρ' h' w' ∧ Stp ρ h w ρ' h' w' ∧ v.ws (below h'.n) := by
  have hts : ts = #[sT, xT] := by rw [← ht]
  subst hts
  unfold aappend at hs
  split at hs
  case h_2 => cases hs
  rename_i el xel base len cap z op m hd hdx hm
  split at hs
  case h_2 => cases hs
  rename_i inf zr hi hz
  split at hs
  case isFalse => cases hs
  rename_i hzl
  split at hs
  case h_1 => cases hs
  rename_i xs hxs
  obtain ⟨x1, x2, x3⟩ := asource_sound (P := P) r hwx hxs
  obtain ⟨z1, z2⟩ := azero_sound (ρ := ρ) hz w (below h.n)
  have hlen := aslen_sound (ρ := ρ) (w := w) (P := P) hm
  -- the slice as the machine has it
  obtain ⟨sa, sc, hsd, hsc, hcs⟩ : ∃ sa sc, (∀ l, (AV.slice base l cap z op).den ρ = .slice sa l sc) ∧ (op = false ∨ base = none → sc = cap) ∧ cap ≤ sc := by
    cases base with
    | none => exact ⟨none, cap, fun _ => rfl, fun _ => rfl, Nat.le_refl _⟩
    | some p =>
      obtain ⟨i, off⟩ := p
      refine ⟨_, _, fun _ => rfl, ?_, by split <;> omega⟩
      intro hq
      rcases hq with hq | hq
      · simp [hq]
      · cases hq
  have hzf : ∀ d : TypeDesc, d = .slice xel → (match d with | .int _ => true | _ => false) = false := by intro d hq; subst hq; rfl
  -- the run, as far as the test
  have hrun : (Builtin.append_ #[sT, xT] ty #[(AV.slice base len cap z op).den ρ, x.den ρ]).run P w =
      (if len + m ≤ sc then (do
          let new ← Builtin.firstCells inf.size m (x.den ρ)
          if let some a := sa then storeCells (a.add (len * inf.size)) new.toList
          pure (Value.slice sa (len + m) sc) : Sem Value)
        else (do
          if ((len + m : Nat) : Int) > IntKind.i64.max ∧ (False ∨ inf.bytes = 0) then runtimePanic (.error "growslice: len out of range")
          if Builtin.nextslicecap (len + m) sc * inf.bytes > 2 ^ 48 then (do
            if !(← Builtin.mayShare inf.size len m sa (x.den ρ)) then mark .noRoom
            unsupported (.resourceLimit "append: a slice or a string whose bytes no memory bears"))
          let newCap ← choose (.appendCap (len + m) sc el)
          askRoom (newCap * inf.bytes)
          let old ← Builtin.firstCells inf.size len ((AV.slice base len cap z op).den ρ)
          let new ← Builtin.firstCells inf.size m (x.den ρ)
          let rest := Builtin.zeroCells (← zeroValue el).cells (newCap - (len + m))
          pure (Value.slice (some (← newRow el (old ++ new ++ rest))) (len + m) newCap) : Sem Value)).run P w := by
    rw [hsd]
    simp only [Builtin.append_, List.getElem?_toArray, List.getElem?_cons_zero, List.getElem?_cons_succ, Sem.run_bind, run_underlying hd, run_underlying hdx, Result.andThen_ok, run_sizeOf hi, Sem.run_pure]
    simp only [Bool.false_eq_true, if_false, hlen, Result.andThen_ok, typeInfo, Sem.run_bind, run_program, hi, Bool.not_false, if_true, Sem.run_pure]
    split
    · cases sa <;> simp
    · simp [hi, typeInfo]
  rw [hrun]
  clear hrun hzf
  simp only at hs
  by_cases hneed : len + m ≤ cap
  · rw [if_pos hneed] at hs
    rw [if_pos (Nat.le_trans hneed hcs)]
    simp only [Sem.run_bind, x1, Result.andThen_ok]
    by_cases hm0 : m = 0
    · rw [if_pos hm0] at hs
      simp only [Option.some.injEq, Prod.mk.injEq] at hs
      obtain ⟨rfl, rfl⟩ := hs
      have hx0 : xs = [] := by
        apply List.eq_nil_of_length_eq_zero; rw [x3, hm0]; simp
      subst hx0
      refine ⟨ρ, w, ?_, r, Stp.refl _ _ _, by cases base <;> exact hws⟩
      rw [hsd]
      cases sa <;> simp [AV.denL, storeCells]
    · rw [if_neg hm0] at hs
      split at hs
      · rename_i i off
        split at hs
        · rename_i h1 hput
          simp only [Option.some.injEq, Prod.mk.injEq] at hs
          obtain ⟨rfl, rfl⟩ := hs
          obtain ⟨w', p1, p2, p3⟩ := aput?_sound (P := P) r x2 hput
          have hi' : i < h.n := hws
          refine ⟨ρ, w', ?_, p2, p3, Nat.lt_of_lt_of_le hi' p3.n⟩
          have h5 := hsd (len + m)
          simp only [AV.den, sAddr, Value.slice.injEq] at h5
          obtain ⟨h6, _, _⟩ := h5
          subst h6
          rw [hsd]
          simp only [pAddr_add, List.toList_toArray, Sem.run_bind, p1, Result.andThen_ok, Sem.run_pure]
        · cases hs
      · cases hs
  · rw [if_neg hneed] at hs
    split at hs
    case isFalse => cases hs
    rename_i hbd
    obtain ⟨hb1, hb2, hb3⟩ := hbd
    split at hs
    case h_1 => cases hs
    rename_i old hold
    obtain ⟨o1, o2, o3⟩ := asource_sound (P := P) r hws hold
    by_cases hroom : len + m ≤ sc
    · -- in place, in the hidden part
      rw [if_pos hroom]
      have hno : ¬ (op = false ∨ base = none) := fun hq => by have := hsc hq; omega
      split at hs
      · exact absurd (.inr rfl) hno
      · exact absurd (.inl rfl) hno
      rename_i i off
      split at hs
      case h_2 => cases hs
      rename_i c esz hic
      split at hs
      case isFalse => cases hs
      rename_i hcond
      obtain ⟨hesz, hend, hleaf⟩ := hcond
      simp only [Option.some.injEq, Prod.mk.injEq] at hs
      obtain ⟨rfl, rfl⟩ := hs
      obtain ⟨cs, E, fz, g1, g2, g3, g4⟩ := r.fits i _ hic
      have hb := (Array.getElem?_eq_some_iff.1 g1).1
      have h5 := hsd (len + m)
      simp only [AV.den, if_true, Value.slice.injEq] at h5
      obtain ⟨h6, _, h7⟩ := h5
      have hsl : (ρ i).sl ≠ 0 := by omega
      have hsa : sa = some (pAddr ρ i off) := by
        rw [← h6]; congr 1
        unfold sAddr
        cases z with
        | none => rfl
        | some z0 => simp only [hsl, if_false]
      subst hsa
      subst hesz
      have hmul : (len + m) * inf.size ≤ (cap + (ρ i).sl) * inf.size := Nat.mul_le_mul_right _ (by omega)
      rw [Nat.add_mul, Nat.add_mul] at hmul
      have hxl : (AV.denL ρ xs).length = m * inf.size := by simp [denL_map, x3]
      have hst := run_storeCells_blk P (ρ i).b ((ρ i).o + (off + len * inf.size)) E fz (AV.denL ρ xs) 0 cs w g1 (by rw [hxl]; omega) g4 (fun v hv => by
        rw [denL_map, List.mem_map] at hv
        obtain ⟨u, hu, rfl⟩ := hv
        exact den_one ρ (List.all_eq_true.1 hleaf u hu))
      obtain ⟨k1, k2⟩ := r.kill hic rfl
      have hfree : ¬ Owned ρ (h.set i .dead) (ρ i).b := by
        rintro ⟨j, q, hj, hq, he⟩
        by_cases e : j = i
        · subst e; rw [AHeap.get_set_self] at hj; cases hj; cases hq
        · rw [AHeap.get_set_ne _ _ e] at hj
          exact r.apart j i q _ hj hic e hq rfl he
      have hi' : i < h.n := hws
      have hN := r.high i _ hic rfl
      let p : Place := ⟨(ρ i).b, (ρ i).o + off, sc - (len + m)⟩
      have hext := Ext.upd ρ h.n p
      have hws2 : AV.wsL (below h.n) (old ++ xs) := wsL_append o2 x2
      have hold' : old = (c.drop off).take (len * inf.size) := by
        unfold asource at hold
        simp only at hold
        by_cases hl0 : len = 0
        · simp only [hl0, if_true, Option.some.injEq] at hold
          subst hold; simp [hl0]
        · simp only [hl0, if_false] at hold
          cases z with
          | some z0 => simp at hold
          | none =>
            simp only [cellsAt, hic] at hold
            split at hold
            · simpa using hold.symm
            · cases hold
      have hfit : Fits (upd ρ h.n p) (wset w (ρ i).b (.cells (splice cs.toList ((ρ i).o + (off + len * inf.size) + 0) (AV.denL ρ xs)).toArray E fz)) h.n (.cells (old ++ xs) false inf.size) := by
        refine ⟨(splice cs.toList ((ρ i).o + (off + len * inf.size) + 0) (AV.denL ρ xs)).toArray, E, fz, ?_, ?_, ?_, ?_⟩
        · rw [upd_self]; exact wset_get _ _ _ hb
        · intro j v hj
          rw [upd_self, den_ext hext v (wsL_get hws2 hj)]
          simp only [List.getElem?_toArray, Nat.add_zero]
          rw [splice_get _ _ _ (by rw [hxl]; simp; omega), hxl]
          have hpo : p.o = (ρ i).o + off := rfl
          by_cases hjl : j < old.length
          · rw [List.getElem?_append_left hjl] at hj
            rw [if_pos (by omega)]
            rw [hold', List.getElem?_take] at hj
            split at hj
            · rw [List.getElem?_drop] at hj
              have := g2 (off + j) v hj
              rw [show p.o + j = (ρ i).o + (off + j) by omega]
              simpa using this
            · cases hj
          · rw [List.getElem?_append_right (by omega)] at hj
            have hjx : j - old.length < xs.length := by
              rcases Nat.lt_or_ge (j - old.length) xs.length with q | q
              · exact q
              · rw [List.getElem?_eq_none q] at hj; cases hj
            rw [if_neg (by omega), if_pos (by omega)]
            have := denL_get (ρ := ρ) hj
            rw [show p.o + j - ((ρ i).o + (off + len * inf.size)) = j - old.length by omega]
            exact this
        · rw [upd_self]
          simp only [List.size_toArray, Nat.add_zero]
          rw [splice_length _ _ _ (by rw [hxl]; simp; omega)]
          simp only [List.length_append, Array.length_toList]
          show (ρ i).o + off + (old.length + xs.length) + (sc - (len + m)) * inf.size ≤ cs.size
          have hmul2 : (sc - (len + m)) * inf.size = sc * inf.size - (len + m) * inf.size := Nat.sub_mul _ _ _
          have hmul3 : sc * inf.size = cap * inf.size + (ρ i).sl * inf.size := by rw [← h7, Nat.add_mul]
          rw [Nat.add_mul] at hmul2
          omega
        · simp only [List.size_toArray, Nat.add_zero]
          rw [splice_length _ _ _ (by rw [hxl]; simp; omega)]
          simpa using g4
      have hadopt := k1.adopt (o := .cells (old ++ xs) false inf.size) (w' := wset w (ρ i).b (.cells (splice cs.toList ((ρ i).o + (off + len * inf.size) + 0) (AV.denL ρ xs)).toArray E fz)) p hN hfree
        (fun b hne => wset_ne _ _ hne) (wset_size _ _ _) (show AV.wsL (below h.n) (old ++ xs) from hws2) rfl hfit
      refine ⟨upd ρ h.n p, _, ?_, hadopt, ?_, Nat.lt_succ_self _⟩
      · have : sc - (len + m) + (len + m) = sc := by omega
        have h8 : (⟨(ρ i).b, (ρ i).o + off + 0, none⟩ : Addr) = pAddr ρ i off := rfl
        simp only [Sem.run_bind, x1, Result.andThen_ok, pAddr_add, List.toList_toArray]
        have hst' : (storeCells (pAddr ρ i (off + len * inf.size)) (AV.denL ρ xs)).run P w = _ := hst
        rw [hst']
        simp only [Result.andThen_ok, Sem.run_pure, AV.den, upd_self, if_true, sAddr]
        congr 2
        · simp only [pAddr, upd_self]; rfl
        · show sc = len + m + (sc - (len + m)); omega
      · refine ⟨hext, Nat.le_succ _, rfl, rfl, rfl, by rw [wset_size]; exact Nat.le_refl _, ?_, ?_⟩
        · rintro b ⟨j, q, hj, hq, he⟩
          by_cases e : j = h.n
          · subst e; rw [upd_self] at he
            exact .inl ⟨i, _, hic, rfl, he⟩
          · rw [AHeap.get_alloc_ne (h.set i .dead) _ e] at hj
            rw [upd_ne _ _ e] at he
            exact k2.own b ⟨j, q, hj, hq, he⟩
        · intro b _ hn
          exact wset_ne _ _ fun e => hn ⟨i, _, hic, rfl, e.symm⟩
    · rw [if_neg hroom]
      have hmx : ¬ (((len + m : Nat) : Int) > IntKind.i64.max ∧ (False ∨ inf.bytes = 0)) := by
        intro hq; have := hq.1; simp [IntKind.max, IntKind.signed, IntKind.bits] at this; omega
      have hcap := append_cap (show sc < len + m by omega) hb2 hb3
      -- the new block
      let cut := Question.cut (.appendCap (len + m) sc el) (w.tape w.drawn (.appendCap (len + m) sc el))
      have hcut : len + m ≤ cut := by show len + m ≤ len + m + _; omega
      let extra := (Builtin.zeroCells (zr.den ρ).cells (cut - (len + m))).toList
      have hextra : (cut - (len + m)) * inf.size ≤ extra.length := by
        simp only [extra, Builtin.zeroCells, Array.length_toList, Array.size_map, Array.size_range]
        rw [den_cells]; simp [denL_map, hzl]
      let w' : World := { w with drawn := w.drawn + 1, heap := w.heap.push (.cells (AV.denL ρ (old ++ xs) ++ extra).toArray el) }
      have hb : ∀ w0 : World, w0.heap = w.heap → (Builtin.firstCells inf.size len ((AV.slice base len cap z op).den ρ)).run P w0 = .ok (AV.denL ρ old).toArray w0 ∧
          (Builtin.firstCells inf.size m (x.den ρ)).run P w0 = .ok (AV.denL ρ xs).toArray w0 ∧ (zeroValue el).run P w0 = .ok (zr.den ρ) w0 := fun w0 e0 =>
        ⟨(asource_sound (P := P) (r.heap_eq' e0) hws hold).1, (asource_sound (P := P) (r.heap_eq' e0) hwx hxs).1, (azero_sound (ρ := ρ) hz w0 (below h.n)).1⟩
      have hrun2 : (do
          if ((len + m : Nat) : Int) > IntKind.i64.max ∧ (False ∨ inf.bytes = 0) then runtimePanic (.error "growslice: len out of range")
          if Builtin.nextslicecap (len + m) sc * inf.bytes > 2 ^ 48 then (do
            if !(← Builtin.mayShare inf.size len m sa (x.den ρ)) then mark .noRoom
            unsupported (.resourceLimit "append: a slice or a string whose bytes no memory bears"))
          let newCap ← choose (.appendCap (len + m) sc el)
          askRoom (newCap * inf.bytes)
          let old ← Builtin.firstCells inf.size len ((AV.slice base len cap z op).den ρ)
          let new ← Builtin.firstCells inf.size m (x.den ρ)
          let rest := Builtin.zeroCells (← zeroValue el).cells (newCap - (len + m))
          pure (Value.slice (some (← newRow el (old ++ new ++ rest))) (len + m) newCap) : Sem Value).run P w =
          .ok (.slice (some ⟨w.heap.size, 0, none⟩) (len + m) cut) w' := by
        rw [if_neg hmx, if_neg hcap]
        obtain ⟨b1, b2, b3⟩ := hb { w with drawn := w.drawn + 1 } rfl
        have hE : (AV.denL ρ old).toArray ++ (AV.denL ρ xs).toArray ++ Builtin.zeroCells (zr.den ρ).cells (cut - (len + m)) = (AV.denL ρ (old ++ xs) ++ extra).toArray := by
          apply Array.ext'; simp [extra, denL_append]
        simp only [Sem.run_bind, Sem.run_pure, Result.andThen_ok, run_choose, Question.forced, Bool.false_eq_true, if_false, run_askRoom, b1, b2, b3, newRow, run_newObj]
        show Result.ok _ { w with drawn := w.drawn + 1, heap := w.heap.push (.cells ((AV.denL ρ old).toArray ++ (AV.denL ρ xs).toArray ++ Builtin.zeroCells (zr.den ρ).cells (cut - (len + m))) el) } = _
        rw [hE]
      rw [hrun2]
      have fin : ∀ (h1 : AHeap), h1.n = h.n → R N G ρ h1 w → Stp ρ h w ρ h1 w →
          (AV.slice (some (h.n, 0)) (len + m) (len + m) none true, h1.alloc (.cells (old ++ xs) false inf.size)) = (v, h') →
          ∃ ρ' w'', Result.ok (.slice (some ⟨w.heap.size, 0, none⟩) (len + m) cut) w' = Result.ok (v.den ρ') w'' ∧ R N G ρ' h' w'' ∧ Stp ρ h w ρ' h' w'' ∧ v.ws (below h'.n) := by
        intro h1 hn r1 s1 heq
        simp only [Prod.mk.injEq] at heq
        obtain ⟨rfl, rfl⟩ := heq
        obtain ⟨q1, q2⟩ := R.newCells (w' := w') r1 (by rw [hn]; exact wsL_append o2 x2) inf.size (cut - (len + m)) el extra hextra rfl rfl rfl rfl
        rw [hn] at q1 q2
        refine ⟨_, w', ?_, q1, s1.trans q2, ?_⟩
        · simp only [AV.den, upd_self, if_true, sAddr, pAddr, Nat.zero_add]
          congr 2
          omega
        · show h.n < h1.n + 1
          omega
      split at hs
      · exact fin h rfl r (Stp.refl _ _ _) (by simpa using hs)
      · exact fin h rfl r (Stp.refl _ _ _) (by simpa using hs)
      · rename_i i off
        split at hs
        case h_2 => cases hs
        rename_i c esz hic
        split at hs
        case isFalse => cases hs
        obtain ⟨k1, k2⟩ := r.kill hic rfl
        exact fin (h.set i .dead) rfl k1 k2 (by simpa using hs)
end
end Go.Sx
