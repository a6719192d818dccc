/- YtlbgokakghchiaaDoorSx3: texts of one's own, merged: SxWopOk, SxWopOk2, SxWopOk3, SxFrame, SxStep. -/
import Derived.Test.YtlbgokakghchiaaDoorSx2
set_option linter.all false
namespace Go.Sx
open Go Go.RowKit

section
variable {N : Nat} {G : Nat → Option Nat} {ρ : Env} {h h' : AHeap} {w : World} {P : Program} {e : Operand → Option AV} {ev : Operand → Value}

/-- a new row of cells, with something behind them -/
theorem R.newCells (r : R N G ρ h w) {c : List AV} (hw : AV.wsL (below h.n) c) (esz sl : Nat) (E : TypeId) (extra : List Value) (hsl : sl * esz ≤ extra.length) {w' : World}
    (hh : w'.heap = w.heap.push (.cells (AV.denL ρ c ++ extra).toArray E)) (e1 : w'.os = w.os) (e2 : w'.tape = w.tape) (e3 : w'.output = w.output) :
    R N G (upd ρ h.n ⟨w.heap.size, 0, sl, none⟩) (h.alloc (.cells c false esz)) w' ∧ Stp ρ h w (upd ρ h.n ⟨w.heap.size, 0, sl, none⟩) (h.alloc (.cells c false esz)) w' := by
  refine r.alloc sl hh e1 e2 e3 hw rfl ?_
  refine ⟨(AV.denL ρ c ++ extra).toArray, E, (0, 0), ?_, ?_, ?_, ?_, by rw [upd_self]⟩
  · rw [upd_self, hh]; simp
  · intro j v hj
    rw [upd_self, den_ext (Ext.upd ρ h.n _) v (wsL_get hw hj)]
    have h1 := denL_get (ρ := ρ) hj
    have h2 : j < (AV.denL ρ c).length := by
      rcases Nat.lt_or_ge j (AV.denL ρ c).length with q | q
      · exact q
      · rw [List.getElem?_eq_none q] at h1; cases h1
    simp only [Nat.zero_add, List.getElem?_toArray]
    rw [List.getElem?_append_left h2]; exact h1
  · rw [upd_self]
    simp only [List.size_toArray, List.length_append, denL_map, List.length_map]
    omega
  · intro x _ hx; omega

theorem azeros_length (z : List AV) : ∀ n, (azeros z n).length = n * z.length
  | 0 => by simp [azeros]
  | n + 1 => by simp [azeros, azeros_length z n, Nat.succ_mul]; omega

theorem azeros_ws {n : Nat → Prop} {z : List AV} (hz : AV.wsL n z) : ∀ k, AV.wsL n (azeros z k)
  | 0 => trivial
  | k + 1 => by
    rw [wsL_iff]
    intro v hv
    simp only [azeros, List.mem_append] at hv
    rcases hv with hv | hv
    · exact (wsL_iff _ _).1 hz v hv
    · exact (wsL_iff _ _).1 (azeros_ws hz k) v hv

theorem azeros_get (z : List AV) (hz : 0 < z.length) : ∀ (n i : Nat), i < n * z.length → (azeros z n)[i]? = z[i % z.length]?
  | 0, i, h => by simp at h
  | n + 1, i, h => by
    simp only [azeros]
    rw [Nat.succ_mul] at h
    by_cases hi : i < z.length
    · rw [List.getElem?_append_left hi, Nat.mod_eq_of_lt hi]
    · rw [List.getElem?_append_right (by omega), azeros_get z hz n (i - z.length) (by omega), ← Nat.mod_eq_sub_mod (by omega)]

/-- the model's way of writing zeros -/
theorem zeros_eq (ρ : Env) (z : List AV) (n : Nat) : ((Array.range (n * z.length)).map ((AV.denL ρ z).toArray[· % (AV.denL ρ z).toArray.size]!)) = (AV.denL ρ (azeros z n)).toArray := by
  have hl : (AV.denL ρ z).toArray.size = z.length := by simp [denL_map]
  by_cases hz : 0 < z.length
  · apply Array.ext_getElem?
    intro i
    simp only [Array.getElem?_map, hl, List.getElem?_toArray]
    by_cases hi : i < n * z.length
    · have h1 := azeros_get z hz n i hi
      have hm : i % z.length < z.length := Nat.mod_lt _ hz
      have h2 : z[i % z.length]? = some (z[i % z.length]'hm) := List.getElem?_eq_getElem hm
      rw [h2] at h1
      rw [denL_get h1]
      have h4 : (Array.range (n * z.length))[i]? = some i := by simp [hi]
      rw [h4]
      simp only [Option.map_some, Option.some.injEq]
      have h3 := denL_get (ρ := ρ) h2
      rw [getElem!_def]
      simp only [List.getElem?_toArray, h3]
    · have h1 : (azeros z n)[i]? = none := List.getElem?_eq_none (by rw [azeros_length]; omega)
      have h2 : (AV.denL ρ (azeros z n))[i]? = none := List.getElem?_eq_none (by simp [denL_map, azeros_length]; omega)
      rw [h2]
      simp; omega
  · have h0 : z = [] := by cases z with | nil => rfl | cons _ _ => simp at hz
    subst h0
    have : azeros [] n = [] := by
      have := azeros_length [] n
      simpa using this
    simp [this, AV.denL]

theorem asource_sound (r : R N G ρ h w) {x : AV} {n size : Nat} {xs : List AV} (hw : x.ws (below h.n)) (hs : asource h size x n = some xs) :
    (Builtin.firstCells size n (x.den ρ)).run P w = .ok (AV.denL ρ xs).toArray w ∧ AV.wsL (below h.n) xs ∧ xs.length = n * size := by
  unfold asource at hs
  split at hs
  case h_2 => cases hs
  rename_i a len cap z op
  split at hs
  · rename_i h0
    simp only [Option.some.injEq] at hs
    subst hs
    subst h0
    refine ⟨?_, trivial, by simp⟩
    cases a with
    | none => simp [AV.den, Builtin.firstCells, AV.denL]
    | some p => obtain ⟨i, off⟩ := p; simp [AV.den, Builtin.firstCells, AV.denL, loadCells, loadCellsFrom]
  · split at hs
    · rename_i i off
      obtain ⟨h1, h2, h3⟩ := cellsAt_sound (P := P) r hs
      refine ⟨?_, h2, h3⟩
      simp [AV.den, Builtin.firstCells, sAddr, h1]
    · cases hs

theorem aslen_sound {x : AV} {m : Nat} (hs : aslen x = some m) : (Builtin.lenOf (x.den ρ)).run P w = .ok m w := by
  unfold aslen at hs
  split at hs
  · rename_i a n cap z op
    simp only [Option.some.injEq] at hs
    subst hs
    cases a with
    | none => simp [AV.den, Builtin.lenOf]
    | some p => obtain ⟨i, off⟩ := p; simp [AV.den, Builtin.lenOf]
  · cases hs

theorem growBy_le (L : Nat) : ∀ (n c : Nat), Builtin.growBy L n c ≤ max c (2 * L + 192)
  | 0, c => by simp only [Builtin.growBy]; omega
  | n + 1, c => by
    simp only [Builtin.growBy]
    split
    · omega
    · have := growBy_le L n (c + (c + 768) / 4)
      omega

theorem nextcap_le (need old : Nat) (h : old < need) : Builtin.nextslicecap need old ≤ 2 * need + 512 := by
  unfold Builtin.nextslicecap
  split
  · omega
  · split
    · omega
    · have := growBy_le need 4 old
      omega

/-- an owned object is forgotten -/
theorem R.kill (r : R N G ρ h w) {i : Nat} {o : AObj} (hi : h.get i = some o) (ho : o.own = true) : R N G ρ (h.set i .dead) w ∧ Stp ρ h w ρ (h.set i .dead) w :=
  r.set hi ho rfl trivial (fun _ _ => rfl) rfl rfl rfl rfl trivial

theorem R.heap_eq' (r : R N G ρ h w) {w' : World} (e : w'.heap = w.heap) : R N G ρ h w' := R.heap_eq e r

theorem R.drawn (r : R N G ρ h w) (d : Nat) : R N G ρ h { w with drawn := d } := R.heap_eq (w := w) rfl r


theorem append_cap {need cap bytes : Nat} (hn : cap < need) (h1 : bytes ≤ 2 ^ 30) (h2 : need * bytes ≤ 2 ^ 40) : ¬ (Builtin.nextslicecap need cap * bytes > 2 ^ 48) := by
  have h3 := nextcap_le need cap hn
  have h4 : Builtin.nextslicecap need cap * bytes ≤ (2 * need + 512) * bytes := Nat.mul_le_mul_right _ h3
  have h5 : (2 * need + 512) * bytes = 2 * (need * bytes) + 512 * bytes := by rw [Nat.add_mul, Nat.mul_assoc]
  omega

theorem denL_append (ρ : Env) (a b : List AV) : AV.denL ρ (a ++ b) = AV.denL ρ a ++ AV.denL ρ b := by simp [denL_map]

theorem wsL_append {n : Nat → Prop} {a b : List AV} (ha : AV.wsL n a) (hb : AV.wsL n b) : AV.wsL n (a ++ b) :=
  (wsL_iff _ _).2 fun v hv => by
    rcases List.mem_append.1 hv with q | q
    · exact (wsL_iff _ _).1 ha v q
    · exact (wsL_iff _ _).1 hb v q

/-- a block that nobody owns is taken over by a new object -/
theorem R.adopt (r : R N G ρ h w) {w' : World} {o : AObj} (p : Place) (hN : N ≤ p.b) (hfree : ¬ Owned ρ h p.b)
    (hk : ∀ b, b ≠ p.b → w'.heap[b]? = w.heap[b]?) (hs : w'.heap.size = w.heap.size) (hws : o.ws (below h.n)) (hro : o.ro = false)
    (hf : Fits (upd ρ h.n p) w' h.n o) : R N G (upd ρ h.n p) (h.alloc o) w' := by
  have hext := Ext.upd ρ h.n p
  have hget : ∀ i o', (h.alloc o).get i = some o' → (i = h.n ∧ o' = o) ∨ (i ≠ h.n ∧ h.get i = some o') := fun i o' hi => by
    by_cases e : i = h.n
    · subst e; rw [AHeap.get_alloc_self] at hi; exact .inl ⟨rfl, (Option.some.inj hi).symm⟩
    · rw [AHeap.get_alloc_ne _ _ e] at hi; exact .inr ⟨e, hi⟩
  refine ⟨?_, ?_, ?_, ?_, ?_, ?_, ?_, ?_⟩
  · intro i o' hi
    rcases hget i o' hi with ⟨rfl, rfl⟩ | ⟨_, hi⟩
    · exact Nat.lt_succ_self _
    · exact Nat.lt_succ_of_lt (r.lt i o' hi)
  · intro i o' hi
    rcases hget i o' hi with ⟨rfl, rfl⟩ | ⟨_, hi⟩
    · exact AObj.ws_mono (fun _ hi => Nat.lt_succ_of_lt hi) _ hws
    · exact AObj.ws_mono (fun _ hi => Nat.lt_succ_of_lt hi) _ (r.ws i o' hi)
  · intro i o' hi
    rcases hget i o' hi with ⟨rfl, rfl⟩ | ⟨_, hi⟩
    · exact hf
    · have hkeep : (ρ i).b ≠ p.b → Fits (upd ρ h.n p) w' i o' := fun hb =>
        Fits.keep hext (r.lt i o' hi) (r.ws i o' hi) (fun ob hob => by rw [hk _ hb]; exact hob) (r.fits i o' hi)
      by_cases hq : o'.own = true
      · exact hkeep fun e => hfree ⟨i, o', hi, hq, e⟩
      · cases o' with
        | dead => trivial
        | cells c ro esz =>
          cases ro with
          | false => simp [AObj.own, AObj.live, AObj.ro] at hq
          | true =>
            have h1 := r.low i _ hi rfl
            exact hkeep (by omega)
        | map es => simp [AObj.own, AObj.live, AObj.ro] at hq
        | chan cap buf => simp [AObj.own, AObj.live, AObj.ro] at hq
  · intro i o' hi h1
    rcases hget i o' hi with ⟨rfl, rfl⟩ | ⟨he, hi⟩
    · rw [hro] at h1; cases h1
    · rw [upd_ne _ _ he]; exact r.low i o' hi h1
  · intro i o' hi h1
    rcases hget i o' hi with ⟨rfl, rfl⟩ | ⟨he, hi⟩
    · rw [upd_self]; exact hN
    · rw [upd_ne _ _ he]; exact r.high i o' hi h1
  · intro i j o' q hi hj hne h1 h2
    rcases hget i o' hi with ⟨ei, _⟩ | ⟨he, hi'⟩
    · rcases hget j q hj with ⟨ej, _⟩ | ⟨he', hj'⟩
      · exact absurd (ei.trans ej.symm) hne
      · rw [ei, upd_self, upd_ne _ _ he']
        exact fun e => hfree ⟨j, q, hj', h2, e.symm⟩
    · rcases hget j q hj with ⟨ej, _⟩ | ⟨he', hj'⟩
      · rw [ej, upd_self, upd_ne _ _ he]
        exact fun e => hfree ⟨i, o', hi', h1, e⟩
      · rw [upd_ne _ _ he, upd_ne _ _ he']; exact r.apart i j o' q hi' hj' hne h1 h2
  · rw [hs]; exact r.base
  · intro g i hg
    obtain ⟨h1, h2, h3⟩ := r.glob g i hg
    rw [upd_ne _ _ (Nat.ne_of_lt h1)]
    exact ⟨Nat.lt_succ_of_lt h1, h2, h3⟩

theorem aappend_sound (r : R N G ρ h w) {sT xT ty : TypeId} {s x v : AV} {ts : Array TypeId} (ht : ts.toList = [sT, xT]) (hws : s.ws (below h.n)) (hwx : x.ws (below h.n)) (hs : aappend P h sT xT s x = some (v, h')) :
    ∃ ρ' w', (Builtin.append_ ts ty #[s.den ρ, x.den ρ]).run P w = .ok (v.den ρ') w' ∧ R N G ρ' h' w' ∧ Stp ρ h w ρ' h' w' ∧ v.ws (below h'.n) := by
  have hts : ts = #[sT, xT] := by rw [← ht]
  subst hts
  unfold aappend at hs
  split at hs
  case h_2 => cases hs
  rename_i el xel base len cap z op m hd hdx hm
  split at hs
  case h_2 => cases hs
  rename_i inf zr hi hz
  split at hs
  case isFalse => cases hs
  rename_i hzl
  split at hs
  case h_1 => cases hs
  rename_i xs hxs
  obtain ⟨x1, x2, x3⟩ := asource_sound (P := P) r hwx hxs
  obtain ⟨z1, z2⟩ := azero_sound (ρ := ρ) hz w (below h.n)
  have hlen := aslen_sound (ρ := ρ) (w := w) (P := P) hm
  -- the slice as the machine has it
  obtain ⟨sa, sc, hsd, hsc, hcs⟩ : ∃ sa sc, (∀ l, (AV.slice base l cap z op).den ρ = .slice sa l sc) ∧ (op = false ∨ base = none → sc = cap) ∧ cap ≤ sc := by
    cases base with
    | none => exact ⟨none, cap, fun _ => rfl, fun _ => rfl, Nat.le_refl _⟩
    | some p =>
      obtain ⟨i, off⟩ := p
      refine ⟨_, _, fun _ => rfl, ?_, by split <;> omega⟩
      intro hq
      rcases hq with hq | hq
      · simp [hq]
      · cases hq
  have hzf : ∀ d : TypeDesc, d = .slice xel → (match d with | .int _ => true | _ => false) = false := by intro d hq; subst hq; rfl
  -- the run, as far as the test
  have hrun : (Builtin.append_ #[sT, xT] ty #[(AV.slice base len cap z op).den ρ, x.den ρ]).run P w =
      (if len + m ≤ sc then (do
          let new ← Builtin.firstCells inf.size m (x.den ρ)
          if let some a := sa then storeCells (a.add (len * inf.size)) new.toList
          pure (Value.slice sa (len + m) sc) : Sem Value)
        else (do
          if ((len + m : Nat) : Int) > IntKind.i64.max ∧ (False ∨ inf.bytes = 0) then runtimePanic (.error "growslice: len out of range")
          if Builtin.nextslicecap (len + m) sc * inf.bytes > 2 ^ 48 then (do
            if !(← Builtin.mayShare inf.size len m sa (x.den ρ)) then mark .noRoom
            unsupported (.resourceLimit "append: a slice or a string whose bytes no memory bears"))
          let newCap ← choose (.appendCap (len + m) sc el)
          askRoom (newCap * inf.bytes)
          let old ← Builtin.firstCells inf.size len ((AV.slice base len cap z op).den ρ)
          let new ← Builtin.firstCells inf.size m (x.den ρ)
          let rest := Builtin.zeroCells (← zeroValue el).cells (newCap - (len + m))
          pure (Value.slice (some (← newRow el (old ++ new ++ rest))) (len + m) newCap) : Sem Value)).run P w := by
    rw [hsd]
    simp only [Builtin.append_, List.getElem?_toArray, List.getElem?_cons_zero, List.getElem?_cons_succ, Sem.run_bind, run_underlying hd, run_underlying hdx, Result.andThen_ok, run_sizeOf hi, Sem.run_pure]
    simp only [Bool.false_eq_true, if_false, hlen, Result.andThen_ok, typeInfo, Sem.run_bind, run_program, hi, Bool.not_false, if_true, Sem.run_pure]
    split
    · cases sa <;> simp
    · simp [hi, typeInfo]
  rw [hrun]
  clear hrun hzf
  simp only at hs
  by_cases hneed : len + m ≤ cap
  · rw [if_pos hneed] at hs
    rw [if_pos (Nat.le_trans hneed hcs)]
    simp only [Sem.run_bind, x1, Result.andThen_ok]
    by_cases hm0 : m = 0
    · rw [if_pos hm0] at hs
      simp only [Option.some.injEq, Prod.mk.injEq] at hs
      obtain ⟨rfl, rfl⟩ := hs
      have hx0 : xs = [] := by
        apply List.eq_nil_of_length_eq_zero; rw [x3, hm0]; simp
      subst hx0
      refine ⟨ρ, w, ?_, r, Stp.refl _ _ _, by cases base <;> exact hws⟩
      rw [hsd]
      cases sa <;> simp [AV.denL, storeCells]
    · rw [if_neg hm0] at hs
      split at hs
      · rename_i i off
        split at hs
        · rename_i h1 hput
          simp only [Option.some.injEq, Prod.mk.injEq] at hs
          obtain ⟨rfl, rfl⟩ := hs
          obtain ⟨w', p1, p2, p3⟩ := aput?_sound (P := P) r x2 hput
          have hi' : i < h.n := hws
          refine ⟨ρ, w', ?_, p2, p3, Nat.lt_of_lt_of_le hi' p3.n⟩
          have h5 := hsd (len + m)
          simp only [AV.den, sAddr, Value.slice.injEq] at h5
          obtain ⟨h6, _, _⟩ := h5
          subst h6
          rw [hsd]
          simp only [pAddr_add, List.toList_toArray, Sem.run_bind, p1, Result.andThen_ok, Sem.run_pure]
        · cases hs
      · cases hs
  · rw [if_neg hneed] at hs
    split at hs
    case isFalse => cases hs
    rename_i hbd
    obtain ⟨hb1, hb2, hb3⟩ := hbd
    split at hs
    case h_1 => cases hs
    rename_i old hold
    obtain ⟨o1, o2, o3⟩ := asource_sound (P := P) r hws hold
    by_cases hroom : len + m ≤ sc
    · -- in place, in the hidden part
      rw [if_pos hroom]
      have hno : ¬ (op = false ∨ base = none) := fun hq => by have := hsc hq; omega
      split at hs
      · exact absurd (.inr rfl) hno
      · exact absurd (.inl rfl) hno
      rename_i i off
      split at hs
      case h_2 => cases hs
      rename_i c esz hic
      split at hs
      case isFalse => cases hs
      rename_i hcond
      obtain ⟨hesz, hend, hleaf⟩ := hcond
      simp only [Option.some.injEq, Prod.mk.injEq] at hs
      obtain ⟨rfl, rfl⟩ := hs
      obtain ⟨cs, E, fz, g1, g2, g3, g4, g5⟩ := r.fits i _ hic
      have hb := (Array.getElem?_eq_some_iff.1 g1).1
      have h5 := hsd (len + m)
      simp only [AV.den, if_true, Value.slice.injEq] at h5
      obtain ⟨h6, _, h7⟩ := h5
      have hsl : (ρ i).sl ≠ 0 := by omega
      have hsa : sa = some (pAddr ρ i off) := by
        rw [← h6]; congr 1
        unfold sAddr
        cases z with
        | none => rfl
        | some z0 => simp only [hsl, if_false]
      subst hsa
      subst hesz
      have hmul : (len + m) * inf.size ≤ (cap + (ρ i).sl) * inf.size := Nat.mul_le_mul_right _ (by omega)
      rw [Nat.add_mul, Nat.add_mul] at hmul
      have hxl : (AV.denL ρ xs).length = m * inf.size := by simp [denL_map, x3]
      have hst := run_storeCells_blk P (ρ i).b ((ρ i).o + (off + len * inf.size)) E fz (AV.denL ρ xs) 0 cs w g1 (by rw [hxl]; omega) g4 (fun v hv => by
        rw [denL_map, List.mem_map] at hv
        obtain ⟨u, hu, rfl⟩ := hv
        exact den_one ρ (List.all_eq_true.1 hleaf u hu))
      obtain ⟨k1, k2⟩ := r.kill hic rfl
      have hfree : ¬ Owned ρ (h.set i .dead) (ρ i).b := by
        rintro ⟨j, q, hj, hq, he⟩
        by_cases e : j = i
        · subst e; rw [AHeap.get_set_self _ _ _ (AHeap.get_lt (by assumption))] at hj; cases hj; cases hq
        · rw [AHeap.get_set_ne _ _ e] at hj
          exact r.apart j i q _ hj hic e hq rfl he
      have hi' : i < h.n := hws
      have hN := r.high i _ hic rfl
      let p : Place := ⟨(ρ i).b, (ρ i).o + off, sc - (len + m), none⟩
      have hext := Ext.upd ρ h.n p
      have hws2 : AV.wsL (below h.n) (old ++ xs) := wsL_append o2 x2
      have hold' : old = (c.drop off).take (len * inf.size) := by
        unfold asource at hold
        simp only at hold
        by_cases hl0 : len = 0
        · simp only [hl0, if_true, Option.some.injEq] at hold
          subst hold; simp [hl0]
        · simp only [hl0, if_false] at hold
          cases z with
          | some z0 => simp at hold
          | none =>
            simp only [cellsAt, hic] at hold
            split at hold
            · simpa using hold.symm
            · cases hold
      have hfit : Fits (upd ρ h.n p) (wset w (ρ i).b (.cells (splice cs.toList ((ρ i).o + (off + len * inf.size) + 0) (AV.denL ρ xs)).toArray E fz)) h.n (.cells (old ++ xs) false inf.size) := by
        refine ⟨(splice cs.toList ((ρ i).o + (off + len * inf.size) + 0) (AV.denL ρ xs)).toArray, E, fz, ?_, ?_, ?_, ?_, by rw [upd_self]⟩
        · rw [upd_self]; exact wset_get _ _ _ hb
        · intro j v hj
          rw [upd_self, den_ext hext v (wsL_get hws2 hj)]
          simp only [List.getElem?_toArray, Nat.add_zero]
          rw [splice_get _ _ _ (by rw [hxl]; simp; omega), hxl]
          have hpo : p.o = (ρ i).o + off := rfl
          by_cases hjl : j < old.length
          · rw [List.getElem?_append_left hjl] at hj
            rw [if_pos (by omega)]
            rw [hold', List.getElem?_take] at hj
            split at hj
            · rw [List.getElem?_drop] at hj
              have := g2 (off + j) v hj
              rw [show p.o + j = (ρ i).o + (off + j) by omega]
              simpa using this
            · cases hj
          · rw [List.getElem?_append_right (by omega)] at hj
            have hjx : j - old.length < xs.length := by
              rcases Nat.lt_or_ge (j - old.length) xs.length with q | q
              · exact q
              · rw [List.getElem?_eq_none q] at hj; cases hj
            rw [if_neg (by omega), if_pos (by omega)]
            have := denL_get (ρ := ρ) hj
            rw [show p.o + j - ((ρ i).o + (off + len * inf.size)) = j - old.length by omega]
            exact this
        · rw [upd_self]
          simp only [List.size_toArray, Nat.add_zero]
          rw [splice_length _ _ _ (by rw [hxl]; simp; omega)]
          simp only [List.length_append, Array.length_toList]
          show (ρ i).o + off + (old.length + xs.length) + (sc - (len + m)) * inf.size ≤ cs.size
          have hmul2 : (sc - (len + m)) * inf.size = sc * inf.size - (len + m) * inf.size := Nat.sub_mul _ _ _
          have hmul3 : sc * inf.size = cap * inf.size + (ρ i).sl * inf.size := by rw [← h7, Nat.add_mul]
          rw [Nat.add_mul] at hmul2
          omega
        · simp only [List.size_toArray, Nat.add_zero]
          rw [splice_length _ _ _ (by rw [hxl]; simp; omega)]
          simpa using g4
      have hadopt := k1.adopt (o := .cells (old ++ xs) false inf.size) (w' := wset w (ρ i).b (.cells (splice cs.toList ((ρ i).o + (off + len * inf.size) + 0) (AV.denL ρ xs)).toArray E fz)) p hN hfree
        (fun b hne => wset_ne _ _ hne) (wset_size _ _ _) (show AV.wsL (below h.n) (old ++ xs) from hws2) rfl hfit
      refine ⟨upd ρ h.n p, _, ?_, hadopt, ?_, Nat.lt_succ_self _⟩
      · have : sc - (len + m) + (len + m) = sc := by omega
        have h8 : (⟨(ρ i).b, (ρ i).o + off + 0, none⟩ : Addr) = pAddr ρ i off := by rw [pAddr_sp g5]; rfl
        simp only [Sem.run_bind, x1, Result.andThen_ok, pAddr_add, List.toList_toArray]
        rw [show pAddr ρ i (off + len * inf.size) = ⟨(ρ i).b, (ρ i).o + (off + len * inf.size), none⟩ from pAddr_sp g5]
        rw [hst]
        simp only [Result.andThen_ok, Sem.run_pure, AV.den, upd_self, if_true, sAddr]
        congr 2
        · rw [pAddr_sp g5]; simp only [pAddr, upd_self]; rfl
        · show sc = len + m + (sc - (len + m)); omega
      · refine ⟨hext, Nat.le_succ _, rfl, rfl, rfl, by rw [wset_size]; exact Nat.le_refl _, ?_, ?_⟩
        · rintro b ⟨j, q, hj, hq, he⟩
          by_cases e : j = h.n
          · subst e; rw [upd_self] at he
            exact .inl ⟨i, _, hic, rfl, he⟩
          · rw [AHeap.get_alloc_ne (h.set i .dead) _ e] at hj
            rw [upd_ne _ _ e] at he
            exact k2.own b ⟨j, q, hj, hq, he⟩
        · intro b _ hn
          exact wset_ne _ _ fun e => hn ⟨i, _, hic, rfl, e.symm⟩
    · rw [if_neg hroom]
      have hmx : ¬ (((len + m : Nat) : Int) > IntKind.i64.max ∧ (False ∨ inf.bytes = 0)) := by
        intro hq; have := hq.1; simp [IntKind.max, IntKind.signed, IntKind.bits] at this; omega
      have hcap := append_cap (show sc < len + m by omega) hb2 hb3
      -- the new block
      let cut := Question.cut (.appendCap (len + m) sc el) (w.tape w.drawn (.appendCap (len + m) sc el))
      have hcut : len + m ≤ cut := by show len + m ≤ len + m + _; omega
      let extra := (Builtin.zeroCells (zr.den ρ).cells (cut - (len + m))).toList
      have hextra : (cut - (len + m)) * inf.size ≤ extra.length := by
        simp only [extra, Builtin.zeroCells, Array.length_toList, Array.size_map, Array.size_range]
        rw [den_cells]; simp [denL_map, hzl]
      let w' : World := { w with drawn := w.drawn + 1, heap := w.heap.push (.cells (AV.denL ρ (old ++ xs) ++ extra).toArray el) }
      have hb : ∀ w0 : World, w0.heap = w.heap → (Builtin.firstCells inf.size len ((AV.slice base len cap z op).den ρ)).run P w0 = .ok (AV.denL ρ old).toArray w0 ∧
          (Builtin.firstCells inf.size m (x.den ρ)).run P w0 = .ok (AV.denL ρ xs).toArray w0 ∧ (zeroValue el).run P w0 = .ok (zr.den ρ) w0 := fun w0 e0 =>
        ⟨(asource_sound (P := P) (r.heap_eq' e0) hws hold).1, (asource_sound (P := P) (r.heap_eq' e0) hwx hxs).1, (azero_sound (ρ := ρ) hz w0 (below h.n)).1⟩
      have hrun2 : (do
          if ((len + m : Nat) : Int) > IntKind.i64.max ∧ (False ∨ inf.bytes = 0) then runtimePanic (.error "growslice: len out of range")
          if Builtin.nextslicecap (len + m) sc * inf.bytes > 2 ^ 48 then (do
            if !(← Builtin.mayShare inf.size len m sa (x.den ρ)) then mark .noRoom
            unsupported (.resourceLimit "append: a slice or a string whose bytes no memory bears"))
          let newCap ← choose (.appendCap (len + m) sc el)
          askRoom (newCap * inf.bytes)
          let old ← Builtin.firstCells inf.size len ((AV.slice base len cap z op).den ρ)
          let new ← Builtin.firstCells inf.size m (x.den ρ)
          let rest := Builtin.zeroCells (← zeroValue el).cells (newCap - (len + m))
          pure (Value.slice (some (← newRow el (old ++ new ++ rest))) (len + m) newCap) : Sem Value).run P w =
          .ok (.slice (some ⟨w.heap.size, 0, none⟩) (len + m) cut) w' := by
        rw [if_neg hmx, if_neg hcap]
        obtain ⟨b1, b2, b3⟩ := hb { w with drawn := w.drawn + 1 } rfl
        have hE : (AV.denL ρ old).toArray ++ (AV.denL ρ xs).toArray ++ Builtin.zeroCells (zr.den ρ).cells (cut - (len + m)) = (AV.denL ρ (old ++ xs) ++ extra).toArray := by
          apply Array.ext'; simp [extra, denL_append]
        simp only [Sem.run_bind, Sem.run_pure, Result.andThen_ok, run_choose, Question.forced, Bool.false_eq_true, if_false, run_askRoom, b1, b2, b3, newRow, run_newObj]
        show Result.ok _ { w with drawn := w.drawn + 1, heap := w.heap.push (.cells ((AV.denL ρ old).toArray ++ (AV.denL ρ xs).toArray ++ Builtin.zeroCells (zr.den ρ).cells (cut - (len + m))) el) } = _
        rw [hE]
      rw [hrun2]
      have fin : ∀ (h1 : AHeap), h1.n = h.n → R N G ρ h1 w → Stp ρ h w ρ h1 w →
          (AV.slice (some (h.n, 0)) (len + m) (len + m) none true, h1.alloc (.cells (old ++ xs) false inf.size)) = (v, h') →
          ∃ ρ' w'', Result.ok (.slice (some ⟨w.heap.size, 0, none⟩) (len + m) cut) w' = Result.ok (v.den ρ') w'' ∧ R N G ρ' h' w'' ∧ Stp ρ h w ρ' h' w'' ∧ v.ws (below h'.n) := by
        intro h1 hn r1 s1 heq
        simp only [Prod.mk.injEq] at heq
        obtain ⟨rfl, rfl⟩ := heq
        obtain ⟨q1, q2⟩ := R.newCells (w' := w') r1 (by rw [hn]; exact wsL_append o2 x2) inf.size (cut - (len + m)) el extra hextra rfl rfl rfl rfl
        rw [hn] at q1 q2
        refine ⟨_, w', ?_, q1, s1.trans q2, ?_⟩
        · simp only [AV.den, upd_self, if_true, sAddr, pAddr, Nat.zero_add]
          congr 2
          omega
        · show h.n < h1.n + 1
          omega
      split at hs
      · exact fin h rfl r (Stp.refl _ _ _) (by simpa using hs)
      · exact fin h rfl r (Stp.refl _ _ _) (by simpa using hs)
      · rename_i i off
        split at hs
        case h_2 => cases hs
        rename_i c esz hic
        split at hs
        case isFalse => cases hs
        obtain ⟨k1, k2⟩ := r.kill hic rfl
        exact fin (h.set i .dead) rfl k1 k2 (by simpa using hs)
end
end Go.Sx
namespace Go.Sx
open Go Go.RowKit

section
variable {N : Nat} {G : Nat → Option Nat} {ρ : Env} {h h' : AHeap} {w : World} {P : Program} {e : Operand → Option AV} {ev : Operand → Value}

theorem acopy_sound (r : R N G ρ h w) {dT ty : TypeId} {d x v : AV} {ts : Array TypeId} (ht : ts[0]? = some dT) (hws : d.ws (below h.n)) (hwx : x.ws (below h.n)) (hs : acopy P h dT d x = some (v, h')) :
    ∃ w', (Builtin.copy_ ts ty #[d.den ρ, x.den ρ]).run P w = .ok (v.den ρ) w' ∧ R N G ρ h' w' ∧ Stp ρ h w ρ h' w' ∧ v.ws (below h'.n) := by
  unfold acopy at hs
  split at hs
  case h_2 => cases hs
  rename_i el base dLen cap z op m hd hm
  split at hs
  case h_2 => cases hs
  rename_i inf hi
  simp only at hs
  split at hs
  case h_1 => cases hs
  rename_i xs hxs
  obtain ⟨x1, x2, x3⟩ := asource_sound (P := P) r hwx hxs
  have hlen := aslen_sound (ρ := ρ) (w := w) (P := P) hm
  obtain ⟨sa, sc, hsd⟩ : ∃ sa sc, (AV.slice base dLen cap z op).den ρ = .slice sa dLen sc := by
    cases base with
    | none => exact ⟨none, cap, rfl⟩
    | some p => obtain ⟨i, off⟩ := p; exact ⟨_, _, rfl⟩
  have hmin : Nat.min m dLen = min m dLen := rfl
  have hrun : (Builtin.copy_ ts ty #[(AV.slice base dLen cap z op).den ρ, x.den ρ]).run P w =
      (do if let some a := sa then storeCells a (AV.denL ρ xs)
          pure (goInt ((min m dLen : Nat) : Int)) : Sem Value).run P w := by
    rw [hsd]
    simp only [Builtin.copy_, ht, List.getElem?_toArray, List.getElem?_cons_zero, List.getElem?_cons_succ, Sem.run_bind, run_underlying hd, Result.andThen_ok, run_sizeOf hi, hlen, hmin, x1]
    cases sa <;> simp
  rw [hrun]
  split at hs
  · rename_i h0
    simp only [Option.some.injEq, Prod.mk.injEq] at hs
    obtain ⟨rfl, rfl⟩ := hs
    have hx0 : xs = [] := by apply List.eq_nil_of_length_eq_zero; rw [x3, h0]; simp
    subst hx0
    refine ⟨w, ?_, r, Stp.refl _ _ _, trivial⟩
    rw [h0]
    cases sa <;> simp [AV.denL, storeCells, AV.den, goInt]
  · split at hs
    · rename_i i off
      split at hs
      · rename_i h1 hput
        simp only [Option.some.injEq, Prod.mk.injEq] at hs
        obtain ⟨rfl, rfl⟩ := hs
        obtain ⟨w', p1, p2, p3⟩ := aput?_sound (P := P) r x2 hput
        have hsa : sa = some (pAddr ρ i off) := by
          simp only [AV.den, sAddr, Value.slice.injEq] at hsd
          exact hsd.1.symm
        subst hsa
        refine ⟨w', ?_, p2, p3, trivial⟩
        simp only [Sem.run_bind, p1, Result.andThen_ok, Sem.run_pure]
        rfl
      · cases hs
    · cases hs

theorem findKey_fits {kt : TypeId} {kd : TypeDesc} (hkd : P.underlying kt = some kd) {k : AV} (hf : keyFits kd k = true) {es : List (AV × AV)} {l : List MapEntry}
    (hl : l.map (fun e => (e.key, e.val)) = es.map (fun p => (p.1.den ρ, p.2.den ρ))) {q : Option (Nat × AV)} (hq : afind k es = some q) (w : World) :
    (Instr.findKey kt (k.den ρ) l).run P w = .ok (q.map fun p => (p.1, p.2.den ρ)) w := by
  have h1 := afind_sound (ρ := ρ) hf es l 0 q hl hq
  simp only [Instr.findKey, Sem.run_bind, run_underlying hkd, Result.andThen_ok, h1, Sem.run_pure]
  simp

theorem afind_key {kd : TypeDesc} {k : AV} (hf : keyFits kd k = true) : ∀ (es : List (AV × AV)) (j : Nat) (x : AV), afind k es = some (some (j, x)) → ∃ u, es[j]? = some (k, u)
  | [], j, x, hq => by simp [afind] at hq
  | (k', v) :: es, j, x, hq => by
    simp only [afind] at hq
    split at hq
    · rename_i heq
      simp only [Option.some.injEq, Prod.mk.injEq] at hq
      obtain ⟨rfl, rfl⟩ := hq
      refine ⟨v, ?_⟩
      have : k' = k := by
        unfold akeyEq at heq
        split at heq
        · split at heq
          · rename_i hk; simp only [Option.some.injEq, beq_iff_eq] at heq; rw [hk, heq]
          · cases heq
        · simp only [Option.some.injEq, beq_iff_eq] at heq; rw [heq]
        · cases heq
      rw [this]; rfl
    · split at hq
      · rename_i i y hr
        simp only [Option.some.injEq, Prod.mk.injEq] at hq
        obtain ⟨rfl, rfl⟩ := hq
        obtain ⟨u, hu⟩ := afind_key hf es i y hr
        exact ⟨u, by simpa using hu⟩
      · simp at hq
      · cases hq
    · cases hq

theorem sameBits_key {kd : TypeDesc} {k : AV} (hf : keyFits kd k = true) : Instr.sameBits 10000 (k.den ρ) (k.den ρ) = true := by
  rcases keyFits_spec hf with ⟨_, _, _, rfl, rfl⟩ | ⟨_, rfl, rfl⟩ <;> simp [AV.den, Instr.sameBits]

theorem amapUpdate_sound (r : R N G ρ h w) {t : TypeId} {m k v : AV} (hwk : k.ws (below h.n)) (hwv : v.ws (below h.n)) (hs : amapUpdate P h t m k v = some h') :
    ∃ w', (Instr.mapUpdate t (m.den ρ) (k.den ρ) (v.den ρ)).run P w = .ok () w' ∧ R N G ρ h' w' ∧ Stp ρ h w ρ h' w' := by
  unfold amapUpdate at hs
  split at hs
  case h_2 => cases hs
  rename_i kt el hd
  split at hs
  case h_2 => cases hs
  rename_i kd i hkd
  split at hs
  case h_2 => cases hs
  rename_i es hi
  split at hs
  case isFalse => cases hs
  rename_i hf
  obtain ⟨ents, clk, g1, g2⟩ := r.fits i _ hi
  have hb := (Array.getElem?_eq_some_iff.1 g1).1
  have hg : (getObj (ρ i).b).run P w = .ok (.map ents clk) w := by simp [getObj, Sem.run, g1]
  have hset : ∀ o : Obj, (∀ a b c, o ≠ .cells a b c) → (setObj (ρ i).b o).run P w = .ok () (wset w (ρ i).b o) := fun o ho => by
    simp only [setObj, Sem.run, g1]; rfl
  have hw := r.ws i _ hi
  have fin : ∀ (es' : List (AV × AV)) (ents' : Array MapEntry) (clk' : Nat), ents'.toList.map (fun e => (e.key, e.val)) = es'.map (fun p => (p.1.den ρ, p.2.den ρ)) →
      (∀ p, p ∈ es' → p.1.ws (below h.n) ∧ p.2.ws (below h.n)) → R N G ρ (h.set i (.map es')) (wset w (ρ i).b (.map ents' clk')) ∧ Stp ρ h w ρ (h.set i (.map es')) (wset w (ρ i).b (.map ents' clk')) := by
    intro es' ents' clk' hl hw'
    exact r.set hi rfl rfl hw' (fun b hne => wset_ne _ _ hne) (wset_size _ _ _) rfl rfl rfl ⟨ents', clk', wset_get _ _ _ hb, hl⟩
  have hrun : ∀ q, afind k es = some q → (Instr.mapUpdate t ((AV.map (some i)).den ρ) (k.den ρ) (v.den ρ)).run P w =
      (match q.map (fun (p : Nat × AV) => (p.1, p.2.den ρ)) with
      | some (i', _) => (do
        let key ← Instr.keyThatStays (((ents[i']?).map (fun (x : MapEntry) => x.key)).getD (k.den ρ)) (k.den ρ)
        setObj (ρ i).b (.map (ents.modify i' fun e => { e with key, val := v.den ρ }) clk) : Sem Unit)
      | none => setObj (ρ i).b (.map (ents.push { key := k.den ρ, val := v.den ρ, born := clk }) (clk + 1))).run P w := by
    intro q hq
    have h1 := findKey_fits (ρ := ρ) (P := P) hkd hf g2 hq w
    simp only [Instr.mapUpdate, Sem.run_bind, run_underlying hd, Result.andThen_ok, AV.den, hg, checkKey_fits (ρ := ρ) hkd hf, h1]
    cases q <;> rfl
  split at hs
  · rename_i j x hfd
    simp only [Option.some.injEq] at hs
    subst hs
    rw [hrun _ hfd]
    obtain ⟨u, hu⟩ := afind_key hf es j x hfd
    have hej : (ents[j]?).map (fun e => (e.key, e.val)) = some (k.den ρ, u.den ρ) := by
      have := congrArg (fun l => l[j]?) g2
      simp only [List.getElem?_map, Array.getElem?_toList, hu, Option.map_some] at this
      exact this
    have hkey : ((ents[j]?).map (fun (x : MapEntry) => x.key)).getD (k.den ρ) = k.den ρ := by
      cases he : ents[j]? with
      | none => rfl
      | some q => simp only [he, Option.map_some, Option.some.injEq, Prod.mk.injEq] at hej; simp [hej.1]
    have hstay : (Instr.keyThatStays (k.den ρ) (k.den ρ)).run P w = .ok (k.den ρ) w := by
      simp [Instr.keyThatStays, sameBits_key (ρ := ρ) hf]
    obtain ⟨q1, q2⟩ := fin (es.set j (k, v)) (ents.modify j fun e => { e with key := k.den ρ, val := v.den ρ }) clk (by
      apply List.ext_getElem?
      intro t'
      simp only [List.getElem?_map, Array.getElem?_toList, Array.getElem?_modify, List.getElem?_set]
      have g3 := congrArg (fun l => l[t']?) g2
      simp only [List.getElem?_map, Array.getElem?_toList] at g3
      by_cases e : j = t'
      · subst e
        have hlt : j < es.length := by
          rcases Nat.lt_or_ge j es.length with q | q
          · exact q
          · rw [List.getElem?_eq_none q] at hu; cases hu
        simp only [if_true, hlt]
        cases he : ents[j]? with
        | none => simp [he] at hej
        | some q => simp
      · simp only [e, if_false]; exact g3) (by
      intro p hp
      rcases List.mem_or_eq_of_mem_set hp with hp | rfl
      · exact hw p hp
      · exact ⟨hwk, hwv⟩)
    refine ⟨_, ?_, q1, q2⟩
    simp only [Option.map_some, Sem.run_bind, hkey, hstay, Result.andThen_ok]
    exact hset _ (fun _ _ _ hq => by cases hq)
  · rename_i hfd
    simp only [Option.some.injEq] at hs
    subst hs
    rw [hrun _ hfd]
    obtain ⟨q1, q2⟩ := fin (es ++ [(k, v)]) (ents.push { key := k.den ρ, val := v.den ρ, born := clk }) (clk + 1) (by simp [g2]) (by
      intro p hp
      rcases List.mem_append.1 hp with hp | hp
      · exact hw p hp
      · simp only [List.mem_singleton] at hp; subst hp; exact ⟨hwk, hwv⟩)
    exact ⟨_, hset _ (fun _ _ _ hq => by cases hq), q1, q2⟩
  · cases hs

theorem abuildSlice_sound (r : R N G ρ h w) {t : TypeId} {len : Nat} {ps : List (Nat × AV)} {v : AV} (hw : ∀ p, p ∈ ps → p.2.ws (below h.n)) (hs : abuildSlice P h t len ps = some (v, h')) :
    ∃ ρ' w', (Instr.buildSlice t len (ps.map fun p => (p.1, p.2.den ρ)).toArray).run P w = .ok (v.den ρ') w' ∧ R N G ρ' h' w' ∧ Stp ρ h w ρ' h' w' ∧ v.ws (below h'.n) := by
  unfold abuildSlice at hs
  split at hs
  case h_2 => cases hs
  rename_i el hd
  split at hs
  case h_2 => cases hs
  rename_i inf zr hi hz
  split at hs
  case isFalse => cases hs
  rename_i hc
  obtain ⟨hzl, hsz⟩ := hc
  split at hs
  case h_2 => cases hs
  rename_i cs hf
  simp only [Option.some.injEq, Prod.mk.injEq] at hs
  obtain ⟨rfl, rfl⟩ := hs
  obtain ⟨z1, z2⟩ := azero_sound (ρ := ρ) hz w (below h.n)
  obtain ⟨f1, f2⟩ := afill_sound (ρ := ρ) _ ps _ cs hf (azeros_ws (ws_cells zr z2) len) hw
  obtain ⟨q1, q2⟩ := R.newCells (w' := w.alloc (.cells (AV.denL ρ cs ++ []).toArray el)) r f2 inf.size 0 el [] (by simp) rfl rfl rfl rfl
  refine ⟨_, _, ?_, q1, q2, Nat.lt_succ_self _⟩
  have hinit : ∀ zc : Array Value, (len * inf.size = 0 ∧ zc = #[]) ∨ zc = (zr.den ρ).cells →
      (Array.range (len * inf.size)).map (zc[· % zc.size]!) = (AV.denL ρ (azeros zr.cells len)).toArray := by
    intro zc hzc
    rcases hzc with ⟨h0, rfl⟩ | rfl
    · have : azeros zr.cells len = [] := by
        apply List.eq_nil_of_length_eq_zero; rw [azeros_length, hzl, h0]
      simp [h0, this, AV.denL]
    · rw [den_cells, ← hzl]; exact zeros_eq ρ zr.cells len
  have hgt : ¬ (len * inf.size > 2 ^ 24) := by omega
  have f1' : Instr.fill (fun i => some (i * inf.size, inf.size)) (AV.denL ρ (azeros zr.cells len)).toArray (ps.map fun p => (p.1, p.2.den ρ)) = some (AV.denL ρ cs).toArray := f1
  simp only [Instr.buildSlice, Sem.run_bind, run_underlying hd, Result.andThen_ok, run_sizeOf hi, hgt, if_false, Sem.run_pure]
  by_cases h0 : len * inf.size = 0
  · rw [if_pos h0]
    simp only [Sem.run_bind, Sem.run_pure, Result.andThen_ok]
    rw [hinit #[] (.inl ⟨h0, rfl⟩)]
    simp only [List.toList_toArray, f1', newRow, Sem.run_bind, run_newObj, Sem.run_pure, Result.andThen_ok, AV.den, upd_self, sAddr, pAddr, Bool.false_eq_true, if_false, List.append_nil]
    rfl
  · rw [if_neg h0]
    simp only [Sem.run_bind, z1, Sem.run_pure, Result.andThen_ok]
    rw [hinit _ (.inr rfl)]
    simp only [List.toList_toArray, f1', newRow, Sem.run_bind, run_newObj, Sem.run_pure, Result.andThen_ok, AV.den, upd_self, sAddr, pAddr, Bool.false_eq_true, if_false, List.append_nil]
    rfl
end
end Go.Sx
namespace Go.Sx
open Go Go.RowKit

theorem wrap_i64_small {n : Int} (h0 : 0 ≤ n) (h1 : n ≤ 2 ^ 40) : IntKind.i64.wrap n = n := by
  rw [IntKind.wrap_i64]; omega

section
variable {N : Nat} {G : Nat → Option Nat} {ρ : Env} {h h' : AHeap} {w : World} {P : Program} {e : Operand → Option AV} {ev : Operand → Value}

theorem amakeSlice_sound (r : R N G ρ h w) {t : TypeId} {l c v : AV} (hs : amakeSlice P h t l c = some (v, h')) :
    ∃ ρ' w', (Instr.makeSlice t (l.den ρ) (c.den ρ)).run P w = .ok (v.den ρ') w' ∧ R N G ρ' h' w' ∧ Stp ρ h w ρ' h' w' ∧ v.ws (below h'.n) := by
  unfold amakeSlice at hs
  split at hs
  case h_2 => cases hs
  rename_i el k1 l k2 c hd
  split at hs
  case h_2 => cases hs
  rename_i inf zr hi hz
  split at hs
  case isFalse => cases hs
  rename_i hc
  obtain ⟨hzl, h1, h2, h3, h4⟩ := hc
  simp only [Option.some.injEq, Prod.mk.injEq] at hs
  obtain ⟨rfl, rfl⟩ := hs
  obtain ⟨z1, z2⟩ := azero_sound (ρ := ρ) hz w (below h.n)
  have hcs : AV.wsL (below h.n) (azeros zr.cells c.toNat) := azeros_ws (ws_cells zr z2) _
  obtain ⟨q1, q2⟩ := R.newCells (w' := w.alloc (.cells (AV.denL ρ (azeros zr.cells c.toNat) ++ []).toArray el)) r hcs inf.size 0 el [] (by simp) rfl rfl rfl rfl
  refine ⟨_, _, ?_, q1, q2, Nat.lt_succ_self _⟩
  have e1 : IntKind.i64.wrap l = l := wrap_i64_small h1 (by omega)
  have e2 : IntKind.i64.wrap c = c := wrap_i64_small (by omega) h3
  have t1 : (decide (c < 0) || decide ((inf.bytes : Int) * c > 2 ^ 48)) = false := by
    simp only [Bool.or_eq_false_iff, decide_eq_false_iff_not]
    constructor <;> omega
  have t2 : ((decide (c < 0) || decide ((inf.bytes : Int) * c > 2 ^ 48)) || decide (l < 0) || decide (l > c)) = false := by
    rw [t1]; simp only [Bool.false_or, Bool.or_eq_false_iff, decide_eq_false_iff_not]
    constructor <;> omega
  have hinit : ∀ zc : Array Value, (c.toNat * inf.size = 0 ∧ zc = #[]) ∨ zc = (zr.den ρ).cells →
      (Array.range (c.toNat * inf.size)).map (zc[· % zc.size]!) = (AV.denL ρ (azeros zr.cells c.toNat)).toArray := by
    intro zc hzc
    rcases hzc with ⟨h0, rfl⟩ | rfl
    · have : azeros zr.cells c.toNat = [] := by
        apply List.eq_nil_of_length_eq_zero; rw [azeros_length, hzl, h0]
      simp [h0, this, AV.denL]
    · rw [den_cells, ← hzl]; exact zeros_eq ρ zr.cells c.toNat
  simp only [Instr.makeSlice, Sem.run_bind, run_underlying hd, Result.andThen_ok, AV.den, asInt, asIntOf, Sem.run_pure, typeInfo, run_program, hi, e1, e2, t2, Bool.false_eq_true, if_false, run_askRoom, sizeOf]
  by_cases h0 : c.toNat * inf.size = 0
  · rw [if_pos h0]
    simp only [Sem.run_bind, Sem.run_pure, Result.andThen_ok]
    rw [hinit #[] (.inl ⟨h0, rfl⟩)]
    simp only [newRow, Sem.run_bind, run_newObj, Sem.run_pure, Result.andThen_ok, upd_self, sAddr, pAddr, List.append_nil]
    rfl
  · rw [if_neg h0]
    simp only [Sem.run_bind, z1, Sem.run_pure, Result.andThen_ok]
    rw [hinit _ (.inr rfl)]
    simp only [newRow, Sem.run_bind, run_newObj, Sem.run_pure, Result.andThen_ok, upd_self, sAddr, pAddr, List.append_nil]
    rfl

theorem amakeChan_sound (r : R N G ρ h w) {t : TypeId} {s v : AV} (hs : amakeChan P h t s = some (v, h')) :
    ∃ ρ' w', (Instr.makeChan t (s.den ρ)).run P w = .ok (v.den ρ') w' ∧ R N G ρ' h' w' ∧ Stp ρ h w ρ' h' w' ∧ v.ws (below h'.n) := by
  unfold amakeChan at hs
  split at hs
  case h_2 => cases hs
  rename_i dir el k n hd
  split at hs
  case h_2 => cases hs
  rename_i inf hi
  split at hs
  case isFalse => cases hs
  rename_i hc
  simp only [Option.some.injEq, Prod.mk.injEq] at hs
  obtain ⟨rfl, rfl⟩ := hs
  obtain ⟨q1, q2⟩ := r.alloc (w' := w.alloc (.chan n.toNat #[] false 0 0 false)) (o := .chan n.toNat []) 0 rfl rfl rfl rfl trivial rfl ⟨0, 0, by rw [upd_self]; show (w.heap.push _)[w.heap.size]? = _; simp⟩
  refine ⟨_, _, ?_, q1, q2, Nat.lt_succ_self _⟩
  have t1 : ¬ (n < 0 ∨ n > IntKind.i64.max ∨ (inf.bytes : Int) * n > 2 ^ 48 - 112) := by
    have : IntKind.i64.max = 9223372036854775807 := by simp [IntKind.max, IntKind.signed, IntKind.bits]
    omega
  simp only [Instr.makeChan, Sem.run_bind, run_underlying hd, Result.andThen_ok, AV.den, asInt, asIntOf, Sem.run_pure, typeInfo, run_program, hi, t1, if_false, run_newObj, upd_self]
  rfl

theorem awrite_sound (r : R N G ρ h w) (he : Evs e ev ρ (below h.n)) {o : Oper} {v : AV} (hs : awrite P e h o = some (v, h')) :
    ∃ ρ' w' nx, (execOp ev o).run P w = .ok nx w' ∧ (nx = .value (v.den ρ') ∨ (nx = .skip ∧ v = .tuple [])) ∧ R N G ρ' h' w' ∧ Stp ρ h w ρ' h' w' ∧ v.ws (below h'.n) := by
  unfold awrite at hs
  obtain ⟨dst, op, type, pos, after, guard⟩ := o
  split at hs
  · rename_i el hop
    simp only at hop; subst hop
    split at hs
    · rename_i z hz
      simp only [Option.some.injEq, Prod.mk.injEq] at hs
      obtain ⟨rfl, rfl⟩ := hs
      obtain ⟨z1, z2⟩ := azero_sound (ρ := ρ) hz w (below h.n)
      obtain ⟨q1, q2⟩ := R.newCells (w' := w.alloc (.cells (AV.denL ρ z.cells ++ []).toArray el)) r (ws_cells z z2) 1 0 el [] (by simp) rfl rfl rfl rfl
      refine ⟨_, _, _, ?_, .inl rfl, q1, q2, Nat.lt_succ_self _⟩
      simp only [execOp, Instr.alloc, Sem.run_bind, z1, Result.andThen_ok, newVar, newRow, run_newObj, Sem.run_pure, den_cells, AV.den, upd_self, pAddr, List.append_nil]
      rfl
    · cases hs
  · rename_i el x hop
    simp only at hop; subst hop
    split at hs
    · rename_i u hx
      simp only [Option.some.injEq, Prod.mk.injEq] at hs
      obtain ⟨rfl, rfl⟩ := hs
      obtain ⟨q1, q2⟩ := R.newCells (w' := w.alloc (.cells (AV.denL ρ u.cells ++ []).toArray el)) r (ws_cells u (he.wsOf hx)) 1 0 el [] (by simp) rfl rfl rfl rfl
      refine ⟨_, _, _, ?_, .inl rfl, q1, q2, Nat.lt_succ_self _⟩
      simp only [execOp, Instr.box, Sem.run_bind, Result.andThen_ok, newVar, newRow, run_newObj, Sem.run_pure, he.of hx, den_cells, AV.den, upd_self, pAddr, List.append_nil]
      rfl
    · cases hs
  · rename_i t a x hop
    simp only at hop; subst hop
    split at hs
    · rename_i i off u inf ha hx hi
      split at hs
      · rename_i hlen
        cases hput : aput? h i off u.cells with
        | none => simp [hput] at hs
        | some h1 =>
          simp only [hput, Option.map_some, Option.some.injEq, Prod.mk.injEq] at hs
          obtain ⟨rfl, rfl⟩ := hs
          obtain ⟨w', p1, p2, p3⟩ := aput?_sound (P := P) r (ws_cells u (he.wsOf hx)) hput
          refine ⟨ρ, w', .skip, ?_, .inr ⟨rfl, rfl⟩, p2, p3, trivial⟩
          have e1 := he.of ha
          simp only [AV.den] at e1
          have e2 : (u.den ρ).cells.size = inf.size := by rw [den_cells, ← hlen]; simp [denL_map]
          simp only [execOp, Instr.storeAt, e1, Instr.sureAddr, storeVar, Sem.run_bind, Sem.run_pure, Result.andThen_ok, run_sizeOf hi, he.of hx, e2, ne_eq, not_true, if_false]
          rw [den_cells]
          simp only [List.toList_toArray, p1, Result.andThen_ok]
      · cases hs
    · cases hs
  · rename_i t len parts hop
    simp only at hop; subst hop
    split at hs
    · rename_i ps hps
      obtain ⟨g1, g2⟩ := aparts_sound he _ _ hps
      obtain ⟨ρ', w', h1, h2, h3, h4⟩ := abuildSlice_sound r g2 hs
      refine ⟨ρ', w', _, ?_, .inl rfl, h2, h3, h4⟩
      have : (parts.map fun (x : Nat × Operand) => (x.1, ev x.2)) = (ps.map fun p => (p.1, p.2.den ρ)).toArray := by
        rw [← g1]; apply Array.ext'; simp
      simp only [execOp, this, Sem.run_bind, h1, Result.andThen_ok, Sem.run_pure]
    · cases hs
  · rename_i t hop
    simp only at hop; subst hop
    simp only [Option.some.injEq, Prod.mk.injEq] at hs
    obtain ⟨rfl, rfl⟩ := hs
    obtain ⟨q1, q2⟩ := r.alloc (w' := w.alloc (.map #[] 0)) (o := .map []) 0 rfl rfl rfl rfl (by intro p hp; cases hp) rfl ⟨#[], 0, by rw [upd_self]; show (w.heap.push _)[w.heap.size]? = _; simp, rfl⟩
    refine ⟨_, _, _, ?_, .inl rfl, q1, q2, Nat.lt_succ_self _⟩
    simp only [execOp, Instr.makeMap, Option.map_none, Sem.run_bind, run_newObj, Sem.run_pure, Result.andThen_ok, AV.den, upd_self]
    rfl
  · rename_i t s hop
    simp only at hop; subst hop
    split at hs
    · rename_i u hu
      obtain ⟨ρ', w', h1, h2, h3, h4⟩ := amakeChan_sound r hs
      refine ⟨ρ', w', _, ?_, .inl rfl, h2, h3, h4⟩
      simp only [execOp, he.of hu, Sem.run_bind, h1, Result.andThen_ok, Sem.run_pure]
    · cases hs
  · rename_i t l c hop
    simp only at hop; subst hop
    split at hs
    · rename_i ul uc hl hc
      obtain ⟨ρ', w', h1, h2, h3, h4⟩ := amakeSlice_sound r hs
      refine ⟨ρ', w', _, ?_, .inl rfl, h2, h3, h4⟩
      simp only [execOp, he.of hl, he.of hc, Sem.run_bind, h1, Result.andThen_ok, Sem.run_pure]
    · cases hs
  · rename_i t m k x hop
    simp only at hop; subst hop
    split at hs
    · rename_i um uk ux hm hk hx
      cases hput : amapUpdate P h t um uk ux with
      | none => simp [hput] at hs
      | some h1 =>
        simp only [hput, Option.map_some, Option.some.injEq, Prod.mk.injEq] at hs
        obtain ⟨rfl, rfl⟩ := hs
        obtain ⟨w', p1, p2, p3⟩ := amapUpdate_sound r (he.wsOf hk) (he.wsOf hx) hput
        refine ⟨ρ, w', .skip, ?_, .inr ⟨rfl, rfl⟩, p2, p3, trivial⟩
        simp only [execOp, he.of hm, he.of hk, he.of hx, Sem.run_bind, p1, Result.andThen_ok, Sem.run_pure]
    · cases hs
  · rename_i args argTypes hop
    simp only at hop; subst hop
    split at hs
    · rename_i sT xT s x hts hargs
      obtain ⟨g1, g2⟩ := aops_sound he _ _ hargs
      obtain ⟨ρ', w', h1, h2, h3, h4⟩ := aappend_sound (ty := type) r hts g2.1 g2.2.1 hs
      refine ⟨ρ', w', _, ?_, .inl rfl, h2, h3, h4⟩
      have e1 : args.map ev = #[s.den ρ, x.den ρ] := by
        apply Array.ext'; simpa [AV.denL] using g1
      simp only [execOp, resolve, Sem.run_bind, Sem.run_pure, Result.andThen_ok, invoke, builtin, e1, h1]
    · cases hs
  · rename_i args argTypes hop
    simp only at hop; subst hop
    split at hs
    · rename_i dT xT d x hts hargs
      obtain ⟨g1, g2⟩ := aops_sound he _ _ hargs
      have ht0 : argTypes[0]? = some dT := by rw [← Array.getElem?_toList, hts]; rfl
      obtain ⟨w', h1, h2, h3, h4⟩ := acopy_sound (ty := type) r ht0 g2.1 g2.2.1 hs
      refine ⟨ρ, w', _, ?_, .inl rfl, h2, h3, h4⟩
      have e1 : args.map ev = #[d.den ρ, x.den ρ] := by
        apply Array.ext'; simpa [AV.denL] using g1
      simp only [execOp, resolve, Sem.run_bind, Sem.run_pure, Result.andThen_ok, invoke, builtin, e1, h1]
    · cases hs
  · cases hs
end
end Go.Sx
namespace Go.Sx
open Go Go.RowKit

section
variable {N : Nat} {G : Nat → Option Nat} {ρ ρ' : Env} {h h' hb hin ho hp : AHeap} {w w' : World} {P : Program}

theorem R.congr (r : R N G ρ h w) (hn : h'.n = h.n) (hg : ∀ i, h'.get i = h.get i) : R N G ρ h' w where
  lt := fun i o hi => by rw [hn]; exact r.lt i o (by rw [← hg]; exact hi)
  ws := fun i o hi => by rw [hn]; exact r.ws i o (by rw [← hg]; exact hi)
  fits := fun i o hi => r.fits i o (by rw [← hg]; exact hi)
  low := fun i o hi => r.low i o (by rw [← hg]; exact hi)
  high := fun i o hi => r.high i o (by rw [← hg]; exact hi)
  apart := fun i j o p hi hj => r.apart i j o p (by rw [← hg]; exact hi) (by rw [← hg]; exact hj)
  base := r.base
  glob := fun g i hq => by rw [hn]; exact r.glob g i hq

/-- objects forgotten -/
theorem R.forget (r : R N G ρ h w) (hn : h'.n = h.n) (hg : ∀ i, h'.get i = h.get i ∨ ((h.get i).isSome = true ∧ h'.get i = some .dead)) : R N G ρ h' w := by
  have key : ∀ i o, h'.get i = some o → h.get i = some o ∨ (o = .dead ∧ ∃ q, h.get i = some q) := fun i o hi => by
    rcases hg i with e | ⟨e1, e2⟩
    · exact .inl (by rw [← e]; exact hi)
    · rw [e2] at hi; cases hi
      exact .inr ⟨rfl, Option.isSome_iff_exists.1 e1⟩
  refine ⟨?_, ?_, ?_, ?_, ?_, ?_, r.base, fun g i hq => by rw [hn]; exact r.glob g i hq⟩
  · intro i o hi
    rw [hn]
    rcases key i o hi with h1 | ⟨_, q, hq⟩
    · exact r.lt i o h1
    · exact r.lt i q hq
  · intro i o hi
    rw [hn]
    rcases key i o hi with h1 | ⟨rfl, _⟩
    · exact r.ws i o h1
    · trivial
  · intro i o hi
    rcases key i o hi with h1 | ⟨rfl, _⟩
    · exact r.fits i o h1
    · trivial
  · intro i o hi h2
    rcases key i o hi with h1 | ⟨rfl, _⟩
    · exact r.low i o h1 h2
    · cases h2
  · intro i o hi h2
    rcases key i o hi with h1 | ⟨rfl, _⟩
    · exact r.high i o h1 h2
    · cases h2
  · intro i j o p hi hj hne h2 h3
    rcases key i o hi with h1 | ⟨rfl, _⟩
    · rcases key j p hj with h4 | ⟨rfl, _⟩
      · exact r.apart i j o p h1 h4 hne h2 h3
      · cases h3
    · cases h2

/-- THE FRAME: what was forgotten during a step is there behind it as it was -/
theorem R.frame (X : Nat → Prop) (r : R N G ρ hb w) (hn : hin.n = hb.n) (h1 : ∀ i, X i → hin.get i = some .dead) (h2 : ∀ i, ¬ X i → hin.get i = hb.get i)
    (h5 : ∀ i, X i → ∃ o, hb.get i = some o ∧ o.ro = false)
    (r' : R N G ρ' ho w') (s : Stp ρ hin w ρ' ho w') (h3 : ∀ i, X i → ho.get i = some .dead) (hpn : hp.n = ho.n)
    (h4 : ∀ i, X i → hp.get i = hb.get i) (h6 : ∀ i, ¬ X i → hp.get i = ho.get i) : R N G ρ' hp w' ∧ Stp ρ hb w ρ' hp w' := by
  have hlt : ∀ i, X i → i < hb.n := fun i hx => by obtain ⟨o, ho', _⟩ := h5 i hx; exact r.lt i o ho'
  have hnle : hb.n ≤ ho.n := by rw [← hn]; exact s.n
  -- blocks of the forgotten ones are nobody's
  have hfree : ∀ i o, X i → hb.get i = some o → o.own = true → ¬ Owned ρ hin (ρ i).b := by
    rintro i o hx hi hown ⟨j, q, hj, hq, he⟩
    by_cases hxj : X j
    · rw [h1 j hxj] at hj; cases hj; cases hq
    · rw [h2 j hxj] at hj
      exact r.apart j i q o hj hi (fun e => hxj (e ▸ hx)) hq hown he
  have hsame : ∀ i o, X i → hb.get i = some o → o.own = true → w'.heap[(ρ i).b]? = w.heap[(ρ i).b]? := fun i o hx hi hown =>
    s.keep _ (r.block_lt hi hown) (hfree i o hx hi hown)
  have hρ : ∀ i, X i → ρ' i = ρ i := fun i hx => s.ext i (by rw [hn]; exact hlt i hx)
  have hext : Ext (below hb.n) ρ ρ' := by rw [← hn]; exact s.ext
  have key : ∀ i o, hp.get i = some o → (X i ∧ hb.get i = some o) ∨ (¬ X i ∧ ho.get i = some o) := fun i o hi => by
    by_cases hx : X i
    · exact .inl ⟨hx, by rw [← h4 i hx]; exact hi⟩
    · exact .inr ⟨hx, by rw [← h6 i hx]; exact hi⟩
  have hro : ∀ i o, X i → hb.get i = some o → o.ro = false := fun i o hx hi => by
    obtain ⟨q, hq, hr⟩ := h5 i hx
    rw [hi] at hq; cases hq; exact hr
  have hnot : ∀ i o j q, X i → hb.get i = some o → o.own = true → ho.get j = some q → q.own = true → (ρ i).b ≠ (ρ' j).b := by
    intro i o j q hx hi hown hj hq he
    rcases s.own _ ⟨j, q, hj, hq, rfl⟩ with h7 | h7
    · rw [← he] at h7; exact hfree i o hx hi hown h7
    · have := r.block_lt hi hown; omega
  constructor
  · refine ⟨?_, ?_, ?_, ?_, ?_, ?_, r'.base, fun g i hq => by rw [hpn]; exact r'.glob g i hq⟩
    · intro i o hi
      rw [hpn]
      rcases key i o hi with ⟨hx, hi⟩ | ⟨_, hi⟩
      · exact Nat.lt_of_lt_of_le (r.lt i o hi) hnle
      · exact r'.lt i o hi
    · intro i o hi
      rw [hpn]
      rcases key i o hi with ⟨hx, hi⟩ | ⟨_, hi⟩
      · exact AObj.ws_mono (fun _ hi => Nat.lt_of_lt_of_le hi hnle) _ (r.ws i o hi)
      · exact r'.ws i o hi
    · intro i o hi
      rcases key i o hi with ⟨hx, hi⟩ | ⟨_, hi⟩
      · by_cases hd : o.own = true
        · exact Fits.keep hext (r.lt i o hi) (r.ws i o hi) (fun ob hob => by rw [hsame i o hx hi hd]; exact hob) (r.fits i o hi)
        · have := hro i o hx hi
          cases o with
          | dead => trivial
          | cells c ro esz => simp [AObj.own, AObj.live, this] at hd
          | map es => simp [AObj.own, AObj.live, AObj.ro] at hd
          | chan cap buf => simp [AObj.own, AObj.live, AObj.ro] at hd
      · exact r'.fits i o hi
    · intro i o hi h7
      rcases key i o hi with ⟨hx, hi⟩ | ⟨_, hi⟩
      · rw [hro i o hx hi] at h7; cases h7
      · exact r'.low i o hi h7
    · intro i o hi h7
      rcases key i o hi with ⟨hx, hi⟩ | ⟨_, hi⟩
      · rw [hρ i hx]; exact r.high i o hi h7
      · exact r'.high i o hi h7
    · intro i j o p hi hj hne h7 h8
      rcases key i o hi with ⟨hx, hi⟩ | ⟨_, hi⟩
      · rcases key j p hj with ⟨hxj, hj⟩ | ⟨_, hj⟩
        · rw [hρ i hx, hρ j hxj]; exact r.apart i j o p hi hj hne h7 h8
        · rw [hρ i hx]; exact hnot i o j p hx hi h7 hj h8
      · rcases key j p hj with ⟨hxj, hj⟩ | ⟨_, hj⟩
        · rw [hρ j hxj]; exact fun e => hnot j p i o hxj hj h8 hi h7 e.symm
        · exact r'.apart i j o p hi hj hne h7 h8
  · refine ⟨hext, by rw [hpn]; exact hnle, s.os, s.tape, s.output, s.size, ?_, ?_⟩
    · rintro b ⟨i, o, hi, hown, he⟩
      rcases key i o hi with ⟨hx, hi⟩ | ⟨_, hi⟩
      · exact .inl ⟨i, o, hi, hown, by rw [← hρ i hx]; exact he⟩
      · rcases s.own b ⟨i, o, hi, hown, he⟩ with ⟨j, q, hj, hq, hje⟩ | h7
        · by_cases hxj : X j
          · rw [h1 j hxj] at hj; cases hj; cases hq
          · rw [h2 j hxj] at hj; exact .inl ⟨j, q, hj, hq, hje⟩
        · exact .inr h7
    · intro b hb' hnown
      refine s.keep b hb' ?_
      rintro ⟨j, q, hj, hq, hje⟩
      by_cases hxj : X j
      · rw [h1 j hxj] at hj; cases hj; cases hq
      · rw [h2 j hxj] at hj; exact hnown ⟨j, q, hj, hq, hje⟩

end
end Go.Sx
namespace Go.Sx
open Go Go.RowKit

abbrev CallF := FuncId → List AV → AHeap → Option (AV × AHeap)

def aev (G : Nat → Option Nat) (t : List AV) : Operand → Option AV
  | .tmp x => some (t.getD x (.tuple []))
  | .const v => ofV v
  | .global g => (G g).map fun i => .ptr (some (i, 0))
  | .func f => some (.func f [] [])

def aput (t : List AV) (d : Option Tmp) (v : AV) : List AV :=
  match d with
  | some d => t.set d v
  | none => t

def ayield (ops : Array Oper) (t : List AV) (j : Nat) : Option Bool :=
  match ((ops[j]?).bind (·.dst)).bind (t[·]?) with
  | some (.bool b) => some b
  | _ => none

/-- may a function be entered? -/
def acallable (P : Program) (f : FuncId) : Bool :=
  match P.funcs[f]? with
  | some fn => fn.body.isSome && !(fn.name == "runtime.NumGoroutine")
  | none => false

def isGoCall : Op → Bool
  | .call { callee := .value _, .. } => true
  | _ => false

def aeff (P : Program) (call : CallF) (e : Operand → Option AV) (h : AHeap) (o : Oper) : Option (AV × AHeap) :=
  match o.op with
  | .call { callee := .value f, args, .. } =>
    match e f, aops e args.toList with
    | some (.func fn first cap), some as => if acallable P fn then call fn (first ++ as ++ cap) h else none
    | _, _ => none
  | _ => awrite P e h o

structure CallOk (P : Program) (N : Nat) (G : Nat → Option Nat) (call : CallF) : Prop where
  mono : ∀ f args h v h', call f args h = some (v, h') → h.n ≤ h'.n
  sound : ∀ f args h v h', call f args h = some (v, h') → ∀ ρ w, R N G ρ h w → AV.wsL (below h.n) args →
    Calls P f (AV.denL ρ args).toArray w fun e w' => ∃ ρ', e = .returned (v.den ρ') ∧ R N G ρ' h' w' ∧ Stp ρ h w ρ' h' w' ∧ v.ws (below h'.n)

/-- what the frame's slots are -/
structure TR (S : Nat → Prop) (ρ : Env) (t : List AV) (a : Act) : Prop where
  tmps : a.tmps = (AV.denL ρ t).toArray
  defers : a.defers = []
  ws : AV.wsL S t

section
variable {N : Nat} {G : Nat → Option Nat} {ρ ρ' : Env} {h h' : AHeap} {w w' : World} {P : Program} {e : Operand → Option AV} {ev : Operand → Value} {S : Nat → Prop} {t : List AV} {a : Act}

theorem TR.ext (x : TR S ρ t a) (he : Ext S ρ ρ') : TR S ρ' t a := ⟨by rw [x.tmps, denL_ext he t x.ws], x.defers, x.ws⟩
theorem TR.mono {S' : Nat → Prop} (x : TR S ρ t a) (hS : ∀ i, S i → S' i) : TR S' ρ t a := ⟨x.tmps, x.defers, wsL_mono hS t x.ws⟩

theorem getD_den (ρ : Env) (t : List AV) (x : Nat) : (AV.denL ρ t).toArray.getD x undef = (t.getD x (.tuple [])).den ρ := by
  have h1 : undef = (AV.tuple []).den ρ := rfl
  have h2 : (AV.denL ρ t).toArray[x]? = (t[x]?).map (AV.den ρ) := by rw [denL_map]; simp
  rw [Array.getD_eq_getD_getElem?, h2, List.getD_eq_getElem?_getD]
  cases t[x]? with
  | none => exact h1
  | some v => rfl

theorem ws_getD (hw : AV.wsL S t) (x : Nat) : (t.getD x (.tuple [])).ws S := by
  rw [List.getD_eq_getElem?_getD]
  cases hx : t[x]? with
  | none => trivial
  | some v => exact wsL_get hw hx

/-- the operands' meaning -/
def evOf (ρ : Env) (t : List AV) : Operand → Value := Act.eval ⟨(AV.denL ρ t).toArray, []⟩

theorem Evs.mk (hG : ∀ g i, G g = some i → S i ∧ (ρ i).b = g ∧ (ρ i).o = 0 ∧ (ρ i).sp = none) (hw : AV.wsL S t) : Evs (aev G t) (evOf ρ t) ρ S := by
  intro x v hx
  cases x with
  | tmp x =>
    simp only [aev, Option.some.injEq] at hx
    subst hx
    exact ⟨getD_den ρ t x, ws_getD hw x⟩
  | const c =>
    obtain ⟨h1, h2⟩ := den_ofV ρ c v hx
    exact ⟨h1.symm, h2 S⟩
  | global g =>
    simp only [aev] at hx
    cases hg : G g with
    | none => simp [hg] at hx
    | some i =>
      simp only [hg, Option.map_some, Option.some.injEq] at hx
      subst hx
      obtain ⟨h1, h2, h3, h4⟩ := hG g i hg
      refine ⟨?_, h1⟩
      simp only [evOf, Act.eval, AV.den, pAddr, h2, h3, h4, if_true]
  | func f =>
    simp only [aev, Option.some.injEq] at hx
    subst hx
    exact ⟨rfl, trivial, trivial⟩

theorem R.globS (r : R N G ρ h w) (hS : ∀ i, i < h.n → S i) : ∀ g i, G g = some i → S i ∧ (ρ i).b = g ∧ (ρ i).o = 0 ∧ (ρ i).sp = none :=
  fun g i hg => let ⟨a, b, c⟩ := r.glob g i hg; ⟨hS i a, b, c⟩

theorem TR.eval (x : TR S ρ t a) : a.eval = evOf ρ t := by
  funext y
  cases y <;> simp [Act.eval, evOf, x.tmps]

theorem TR.put (x : TR S ρ t a) {v : AV} (hv : v.ws S) (d : Option Tmp) : TR S ρ (aput t d v) (a.put d (v.den ρ)) := by
  cases d with
  | none => exact x
  | some d =>
    refine ⟨?_, x.defers, ?_⟩
    · simp only [Act.put, aput, x.tmps]
      apply Array.ext'
      simp [denL_map, List.map_set]
    · rw [wsL_iff]
      intro u hu
      simp only [aput] at hu
      rcases List.mem_or_eq_of_mem_set hu with hu | rfl
      · exact (wsL_iff _ _).1 x.ws u hu
      · exact hv

theorem ayield_eq (ops : Array Oper) (ρ : Env) (t : List AV) (j : Nat) : yielded ops (AV.denL ρ t).toArray j = ayield ops t j := by
  unfold yielded ayield
  cases (ops[j]?).bind (·.dst) with
  | none => rfl
  | some d =>
    simp only [Option.bind_some]
    have h2 : (AV.denL ρ t).toArray[d]? = (t[d]?).map (AV.den ρ) := by rw [denL_map]; simp
    rw [h2]
    cases t[d]? with
    | none => rfl
    | some v =>
      simp only [Option.map_some]
      cases v <;> first | rfl | (rename_i p; cases p <;> rfl) | (rename_i p _ _ _ _; cases p <;> rfl)

theorem wanted_eq (ops : Array Oper) (ρ : Env) (t : List AV) (o : Oper) : Region.wanted o (yielded ops (AV.denL ρ t).toArray) = Region.wanted o (ayield ops t) := by
  unfold Region.wanted
  cases o.guard with
  | none => rfl
  | some g => simp only [ayield_eq]

theorem awrite_mono {o : Oper} {v : AV} (hs : awrite P e h o = some (v, h')) : h.n ≤ h'.n := by
  have hput : ∀ {i off : Nat} {vs : List AV} {h1 : AHeap}, aput? h i off vs = some h1 → h.n ≤ h1.n := fun {i off vs h1} hq => by
    unfold aput? at hq
    split at hq
    · split at hq
      · simp only [Option.some.injEq] at hq; subst hq; exact Nat.le_refl _
      · cases hq
    · cases hq
  unfold awrite at hs
  split at hs
  · split at hs
    · simp only [Option.some.injEq, Prod.mk.injEq] at hs; rw [← hs.2]; exact Nat.le_succ _
    · cases hs
  · split at hs
    · simp only [Option.some.injEq, Prod.mk.injEq] at hs; rw [← hs.2]; exact Nat.le_succ _
    · cases hs
  · split at hs
    · split at hs
      · rw [Option.map_eq_some_iff] at hs
        obtain ⟨h1, hq, he⟩ := hs
        simp only [Prod.mk.injEq] at he
        rw [← he.2]; exact hput hq
      · cases hs
    · cases hs
  · split at hs
    · unfold abuildSlice at hs
      repeat' split at hs
      all_goals first | (cases hs; done) | (simp only [Option.some.injEq, Prod.mk.injEq] at hs; rw [← hs.2]; exact Nat.le_succ _)
    · cases hs
  · simp only [Option.some.injEq, Prod.mk.injEq] at hs; rw [← hs.2]; exact Nat.le_succ _
  · split at hs
    · unfold amakeChan at hs
      repeat' split at hs
      all_goals first | (cases hs; done) | (simp only [Option.some.injEq, Prod.mk.injEq] at hs; rw [← hs.2]; exact Nat.le_succ _)
    · cases hs
  · split at hs
    · unfold amakeSlice at hs
      repeat' split at hs
      all_goals first | (cases hs; done) | (simp only [Option.some.injEq, Prod.mk.injEq] at hs; rw [← hs.2]; exact Nat.le_succ _)
    · cases hs
  · split at hs
    · rw [Option.map_eq_some_iff] at hs
      obtain ⟨h1, hq, he⟩ := hs
      simp only [Prod.mk.injEq] at he
      rw [← he.2]
      unfold amapUpdate at hq
      repeat' split at hq
      all_goals first | (cases hq; done) | (simp only [Option.some.injEq] at hq; rw [← hq]; exact Nat.le_refl _)
    · cases hs
  · split at hs
    · unfold aappend at hs
      simp only at hs
      repeat' split at hs
      all_goals first
        | (cases hs; done)
        | (simp only [Option.some.injEq, Prod.mk.injEq] at hs; rw [← hs.2]; first | exact Nat.le_refl _ | exact Nat.le_succ _ | (exact hput (by assumption)))
    · cases hs
  · split at hs
    · unfold acopy at hs
      simp only at hs
      repeat' split at hs
      all_goals first
        | (cases hs; done)
        | (simp only [Option.some.injEq, Prod.mk.injEq] at hs; rw [← hs.2]; first | exact Nat.le_refl _ | (exact hput (by assumption)))
    · cases hs
  · cases hs

theorem aeff_mono {call : CallF} (hc : CallOk P N G call) {o : Oper} {v : AV} (hs : aeff P call e h o = some (v, h')) : h.n ≤ h'.n := by
  unfold aeff at hs
  split at hs
  · split at hs
    · split at hs
      · exact hc.mono _ _ _ _ _ hs
      · cases hs
    · cases hs
  · exact awrite_mono hs

/-- a step that changes memory -/
theorem aeff_sound {call : CallF} (hc : CallOk P N G call) (r : R N G ρ h w) (he : Evs e ev ρ (below h.n)) {o : Oper} {v : AV} (hs : aeff P call e h o = some (v, h'))
    {K : Act → World → Prop} {Q : Exit → Act → World → Prop} {a : Act}
    (hK : ∀ ρ' w', R N G ρ' h' w' → Stp ρ h w ρ' h' w' → v.ws (below h'.n) → K (a.put o.dst (v.den ρ')) w') : o.upon P a K Q ((execOp ev o).run P w) := by
  unfold aeff at hs
  split at hs
  · rename_i f args argTypes hop
    obtain ⟨dst, op, type, pos, after, guard⟩ := o
    simp only at hop
    subst hop
    split at hs
    · rename_i fn first cap as hf has
      split at hs
      · rename_i hcall
        obtain ⟨g1, g2⟩ := aops_sound he _ _ has
        have e1 := he.of hf
        obtain ⟨w1, w2⟩ := (he.wsOf hf : AV.wsL (below h.n) first ∧ AV.wsL (below h.n) cap)
        have hw : AV.wsL (below h.n) (first ++ as ++ cap) := wsL_append (wsL_append w1 g2) w2
        have hC := hc.sound fn _ h v h' hs ρ w r hw
        have hrun : (execOp ev { dst, op := .call { callee := .value f, args, argTypes }, type, pos, after, guard }).run P w = .ok (.enter fn (AV.denL ρ (first ++ as ++ cap)).toArray) w := by
          unfold acallable at hcall
          cases hfn : P.funcs[fn]? with
          | none => simp [hfn] at hcall
          | some F =>
            simp only [hfn, Bool.and_eq_true, Bool.not_eq_true'] at hcall
            obtain ⟨hb, hn⟩ := hcall
            have hbn : F.body.isNone = false := by cases hq : F.body <;> simp_all
            have e2 : args.map ev = (AV.denL ρ as).toArray := by rw [← g1]; apply Array.ext'; simp
            simp only [AV.den] at e1
            simp only [execOp, resolve, Deferred.ofValue, e1, e2, invoke, callFunc, Sem.run_bind, Sem.run_pure, Result.andThen_ok, run_program, hfn, hn, hbn, Bool.false_eq_true, if_false]
            congr 2
            apply Array.ext'
            simp [denL_map]
        rw [hrun, Oper.upon_enter]
        refine hC.mono ?_
        rintro en w' ⟨ρ', rfl, k1, k2, k3⟩
        exact hK ρ' w' k1 k2 k3
      · cases hs
    · cases hs
  · obtain ⟨ρ', w', nx, h1, h2, h3, h4, h5⟩ := awrite_sound r he hs
    rw [h1]
    rcases h2 with rfl | ⟨rfl, rfl⟩
    · rw [Oper.upon_value]; exact hK ρ' w' h3 h4 h5
    · rw [Oper.upon_skip]; exact hK ρ' w' h3 h4 h5
end
end Go.Sx
