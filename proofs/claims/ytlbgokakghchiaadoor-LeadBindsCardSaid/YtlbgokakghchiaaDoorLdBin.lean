/- YtlbgokakghchiaaDoorLdBin: texts of one's own, merged: LdBin. -/
import Derived.Test.YtlbgokakghchiaaDoorLdM
set_option linter.all false
namespace Go.Sv
open Go Go.Proofs Go.Sx Go.RowKit
set_option maxRecDepth 100000

/-! ### the plain law -/
def bestS (f b x m : Int) (v : Vt) : Int := if v.c.num = x ∧ f ≤ x ∧ v.bal < b then max m v.bal else m
def best (f b x : Int) (vs : List Vt) : Int := vs.foldl (bestS f b x) 0
theorem bget_bset (bs : List Vt) (v : Vt) (x : Int) : bget (bset bs v) x = if v.c.num = x then some v else bget bs x := by
  induction bs with
  | nil =>
    by_cases h : v.c.num = x <;> simp [bset, bget, h]
  | cons b bs ih =>
    unfold bset
    by_cases h1 : b.c.num = v.c.num
    · rw [if_pos h1]
      by_cases h : v.c.num = x
      · simp [bget, h]
      · have h2 : ¬ b.c.num = x := by rw [h1]; exact h
        simp [bget, h, h2]
    · rw [if_neg h1]
      by_cases h2 : b.c.num = x
      · have h3 : ¬ v.c.num = x := fun h => h1 (by rw [h2, h])
        simp [bget, h2, h3]
      · have e1 : ∀ l : List Vt, bget (b :: l) x = bget l x := fun l => by simp [bget, h2]
        rw [e1, e1, ih]
def BR (f b x : Int) (bs : List Vt) (m : Int) : Prop := 0 ≤ m ∧ bget bs x = if 0 < m then some ⟨m, ⟨x, 1, [10 + m]⟩⟩ else none
theorem BR.step {f b x : Int} {bs : List Vt} {m : Int} (r : BR f b x bs m) (v : Vt) (h0 : 0 ≤ v.bal) (hc : v.c = ⟨v.c.num, 1, [10 + v.bal]⟩) : BR f b x (bind1 f b bs v) (bestS f b x m v) := by
  obtain ⟨r0, r1⟩ := r
  unfold bind1 bestS
  by_cases hx : v.c.num = x
  · have hg : ((bget bs v.c.num).map (·.bal)).getD 0 = m := by
      rw [hx, r1]
      by_cases hm : 0 < m
      · simp [hm]
      · simp [hm]; omega
    rw [hg, hx]
    by_cases h1 : f ≤ x ∧ v.bal < b
    · by_cases h2 : m < v.bal
      · rw [if_pos ⟨h1.1, h1.2, h2⟩, if_pos ⟨rfl, h1⟩]
        refine ⟨by omega, ?_⟩
        rw [bget_bset, if_pos hx, show max m v.bal = v.bal by omega, if_pos (by omega)]
        obtain ⟨vb, vc⟩ := v
        simp only at hc hx ⊢
        rw [hc, hx]
      · rw [if_neg (fun h => h2 h.2.2), if_pos ⟨rfl, h1⟩, show max m v.bal = m by omega]
        exact ⟨r0, r1⟩
    · rw [if_neg (fun h => h1 ⟨h.1, h.2.1⟩), if_neg (fun h => h1 h.2)]
      exact ⟨r0, r1⟩
  · have e : (if v.c.num = x ∧ f ≤ x ∧ v.bal < b then max m v.bal else m) = m := if_neg (fun h => hx h.1)
    rw [e]
    split
    · refine ⟨r0, ?_⟩
      rw [bget_bset, if_neg hx, r1]
    · exact ⟨r0, r1⟩
theorem BR.fold {f b x : Int} : ∀ (vs : List Vt) {bs : List Vt} {m : Int} (r : BR f b x bs m) (h : ∀ v ∈ vs, 0 ≤ v.bal ∧ v.c = ⟨v.c.num, 1, [10 + v.bal]⟩), BR f b x (vs.foldl (bind1 f b) bs) (vs.foldl (bestS f b x) m)
  | [], bs, m, r, h => r
  | v :: vs, bs, m, r, h => BR.fold vs (r.step v (h v (by simp)).1 (h v (by simp)).2) (fun w hw => h w (by simp [hw]))

theorem best_le {f b x : Int} (hb : 1 ≤ b) (vs : List Vt) : best f b x vs < b := by
  have h : ∀ (vs : List Vt) (m : Int), m < b → vs.foldl (bestS f b x) m < b := by
    intro vs
    induction vs with
    | nil => exact fun m h => h
    | cons v vs ih =>
      intro m h
      refine ih _ ?_
      unfold bestS
      split <;> omega
  exact h vs 0 (by omega)
theorem bset_mem {v b : Vt} : ∀ {bs : List Vt}, b ∈ bset bs v → b = v ∨ b ∈ bs
  | [], h => .inl (List.mem_singleton.1 h)
  | a :: bs, h => by
    unfold bset at h
    split at h
    · rcases List.mem_cons.1 h with h | h
      · exact .inl h
      · exact .inr (List.mem_cons_of_mem _ h)
    · rcases List.mem_cons.1 h with h | h
      · exact .inr (by rw [h]; exact List.mem_cons_self)
      · rcases bset_mem h with h | h
        · exact .inl h
        · exact .inr (List.mem_cons_of_mem _ h)
theorem binds_mem {f b : Int} {w : Vt} : ∀ {vs bs : List Vt}, w ∈ vs.foldl (bind1 f b) bs → w ∈ vs ∨ w ∈ bs
  | [], bs, h => .inr h
  | v :: vs, bs, h => by
    rcases binds_mem (vs := vs) h with h | h
    · exact .inl (List.mem_cons_of_mem _ h)
    · unfold bind1 at h
      split at h
      · rcases bset_mem h with h | h
        · exact .inl (by rw [h]; exact List.mem_cons_self)
        · exact .inr h
      · exact .inr h

theorem foldB_eq (L : LdS) (ps : List (Vt × AV)) : foldB L ps = (ps.map (·.1)).foldl (bind1 L.f L.b) L.bounds := by
  unfold foldB
  rw [List.foldl_map]
theorem flat_take {A : Type} {enc : A → List AV} {esz : Nat} (hl : ∀ a, (enc a).length = esz) : ∀ (ps : List A) (k : Nat), (ps.flatMap enc).take (k * esz) = (ps.take k).flatMap enc
  | [], k => by simp
  | p :: ps, 0 => by simp
  | p :: ps, k + 1 => by
    rw [List.flatMap_cons, Nat.succ_mul, Nat.add_comm, List.take_append, hl p, List.take_of_length_le (by rw [hl]; omega), Nat.add_sub_cancel_left, flat_take hl ps k]
    rfl
theorem flat_dropK {A : Type} {enc : A → List AV} {esz : Nat} (hl : ∀ a, (enc a).length = esz) : ∀ (ps : List A) (k : Nat), (ps.flatMap enc).drop (k * esz) = (ps.drop k).flatMap enc
  | [], k => by simp
  | p :: ps, 0 => by simp
  | p :: ps, k + 1 => by
    rw [List.flatMap_cons, Nat.succ_mul, Nat.add_comm, List.drop_append, hl p, List.drop_eq_nil_of_le (by rw [hl]; omega), Nat.add_sub_cancel_left, flat_dropK hl ps k]
    rfl

/-! ### the walk -/
def enc3 (r : Int × Int × Int) : List AV := [.int .i64 r.1, .int .i64 r.2.1, .int .i64 r.2.2]
def mkVt (r : Int × Int × Int) : Vt := ⟨r.1 % 24, ⟨r.2.1 % 8, 1, [10 + r.1 % 24]⟩⟩

section
variable {G : Nat → Option Nat} {ov : Ovs} {h : AHeap}

def VS (h' : AHeap) (n0 : Nat) (v : AV) (ps : List (Vt × AV)) (j : Option Nat) (cids : List Nat) : Prop :=
  Own h' 4 n0 v ps.length (ps.flatMap encVt) j ∧ (∀ p ∈ ps, SlI h' p.2 p.1.c.chain cids) ∧ ∀ c ∈ cids, n0 ≤ c ∧ c < h'.n ∧ c ∉ j.toList
def binI (hL : AHeap) (i : Nat) (fr many : Int) (a : AV) (rows : List (Int × Int × Int)) (f : Fr) (h' : AHeap) : Prop :=
  ∃ (k : Nat) (ps : List (Vt × AV)) (v : AV) (j : Option Nat) (cids : List Nat), f 0 = .int .i64 fr ∧ f 1 = a ∧ f 2 = .int .i64 many ∧ f 7 = .ptr (some (i, 0)) ∧ f 9 = .int .i64 21 ∧ f 11 = v ∧ f 12 = .int .i64 k ∧
    k ≤ 12 ∧ k ≤ rows.length ∧ ps.map (·.1) = (rows.take k).map mkVt ∧ VS h' hL.n v ps j cids ∧ Keep [] hL h'
def binM (f : Fr) (_ : AHeap) : Nat := match f 12 with | .int _ i => (12 - i).toNat | _ => 0

def bin2I (h3 : AHeap) (i : Nat) (fr : Int) (v : AV) (f : Fr) (h' : AHeap) : Prop :=
  ∃ num : Nat, f 0 = .int .i64 fr ∧ f 7 = .ptr (some (i, 0)) ∧ f 9 = .int .i64 21 ∧ f 11 = v ∧ f 14 = .int .i64 num ∧ num ≤ 8 ∧ Keep [] h3 h'
def bin2M (f : Fr) (_ : AHeap) : Nat := match f 14 with | .int _ i => (8 - i).toNat | _ => 0
def bin3I (h3 : AHeap) (i : Nat) (fr : Int) (v : AV) (num : Nat) (ps : List (Vt × AV)) (f : Fr) (h' : AHeap) : Prop :=
  ∃ q : Nat, f 0 = .int .i64 fr ∧ f 7 = .ptr (some (i, 0)) ∧ f 9 = .int .i64 21 ∧ f 11 = v ∧ f 14 = .int .i64 num ∧ f 15 = .int .i64 (best fr 21 num ((ps.take q).map (·.1))) ∧ f 16 = .int .i64 q ∧ q ≤ ps.length ∧ h' = h3
def bin3M (n : Nat) (f : Fr) (_ : AHeap) : Nat := match f 16 with | .int _ i => (n - i).toNat | _ => 0

theorem binds_loop (E : LdEnv G ov) {h3 : AHeap} {i n0 : Nat} {ids3 : List Nat} {fr : Int} {w : AV} {ps : List (Vt × AV)} {j : Option Nat}
    (r3 : LdRep h3 i ids3 ⟨0, 21, fr, 2, 6, 0, (ps.map (·.1)).foldl (bind1 fr 21) [], none⟩) (hO : Own h3 4 n0 w ps.length (ps.flatMap encVt) j) (hch : ∀ p ∈ ps, ∃ r, p.1 = mkVt r) (hk12 : ps.length ≤ 12)
    {K : AExit → Fr → AHeap → Prop} (hK : ∀ f h', f 7 = .ptr (some (i, 0)) → Keep [] h3 h' → K (.exit 2) f h') :
    ∀ (f : Fr) (h' : AHeap), bin2I h3 i fr w f h' → WC PR G ov c_law16_LeadBinds_l1 f h' (nxt (fun f' h'_1 => bin2I h3 i fr w f' h'_1 ∧ bin2M f' h'_1 < bin2M f h') K) := by
  rintro f h' ⟨num, f0, f7, f9, f11, f14, hn, kp⟩
  by_cases hlt : num < 8
  case neg =>
    have e1 : ¬ ((num : Int) < 8) := by omega
    simp only [go_sem, ↓reduceIte, Nat.reduceAdd, Nat.reduceMul, Nat.reduceSub, Nat.reduceEqDiff, Nat.reduceLT, Nat.reduceLeDiff, Int.reduceEq, Int.reduceLT, Int.reduceLE, Int.reduceAdd, Int.reduceSub, Int.reduceNeg, Int.reduceToNat, c_law16_LeadBinds_l1, f14, e1]
    refine hK _ _ ?_ kp
    simp only [go_sem, ↓reduceIte, Nat.reduceAdd, Nat.reduceMul, Nat.reduceSub, Nat.reduceEqDiff, Nat.reduceLT, Nat.reduceLeDiff, Int.reduceEq, Int.reduceLT, Int.reduceLE, Int.reduceAdd, Int.reduceSub, Int.reduceNeg, Int.reduceToNat, f7]
  have e1 : ((num : Int) < 8) := by omega
  simp only [go_sem, ↓reduceIte, Nat.reduceAdd, Nat.reduceMul, Nat.reduceSub, Nat.reduceEqDiff, Nat.reduceLT, Nat.reduceLeDiff, Int.reduceEq, Int.reduceLT, Int.reduceLE, Int.reduceAdd, Int.reduceSub, Int.reduceNeg, Int.reduceToNat, c_law16_LeadBinds_l1, f0, f7, f9, f11, f14, e1]
  refine WC_loop (bin3I h' i fr w num ps) (bin3M ps.length) ?init ?step
  case init =>
    refine ⟨0, ?_, ?_, ?_, ?_, ?_, ?_, ?_, by omega, rfl⟩
    · simp only [go_sem, ↓reduceIte, Nat.reduceAdd, Nat.reduceMul, Nat.reduceSub, Nat.reduceEqDiff, Nat.reduceLT, Nat.reduceLeDiff, Int.reduceEq, Int.reduceLT, Int.reduceLE, Int.reduceAdd, Int.reduceSub, Int.reduceNeg, Int.reduceToNat, f0]
    · simp only [go_sem, ↓reduceIte, Nat.reduceAdd, Nat.reduceMul, Nat.reduceSub, Nat.reduceEqDiff, Nat.reduceLT, Nat.reduceLeDiff, Int.reduceEq, Int.reduceLT, Int.reduceLE, Int.reduceAdd, Int.reduceSub, Int.reduceNeg, Int.reduceToNat, f7]
    · simp only [go_sem, ↓reduceIte, Nat.reduceAdd, Nat.reduceMul, Nat.reduceSub, Nat.reduceEqDiff, Nat.reduceLT, Nat.reduceLeDiff, Int.reduceEq, Int.reduceLT, Int.reduceLE, Int.reduceAdd, Int.reduceSub, Int.reduceNeg, Int.reduceToNat, f9]
    · simp only [go_sem, ↓reduceIte, Nat.reduceAdd, Nat.reduceMul, Nat.reduceSub, Nat.reduceEqDiff, Nat.reduceLT, Nat.reduceLeDiff, Int.reduceEq, Int.reduceLT, Int.reduceLE, Int.reduceAdd, Int.reduceSub, Int.reduceNeg, Int.reduceToNat, f11]
    · simp only [go_sem, ↓reduceIte, Nat.reduceAdd, Nat.reduceMul, Nat.reduceSub, Nat.reduceEqDiff, Nat.reduceLT, Nat.reduceLeDiff, Int.reduceEq, Int.reduceLT, Int.reduceLE, Int.reduceAdd, Int.reduceSub, Int.reduceNeg, Int.reduceToNat, f14]
    · simp only [go_sem, ↓reduceIte, Nat.reduceAdd, Nat.reduceMul, Nat.reduceSub, Nat.reduceEqDiff, Nat.reduceLT, Nat.reduceLeDiff, Int.reduceEq, Int.reduceLT, Int.reduceLE, Int.reduceAdd, Int.reduceSub, Int.reduceNeg, Int.reduceToNat]
      rfl
    · simp only [go_sem, ↓reduceIte, Nat.reduceAdd, Nat.reduceMul, Nat.reduceSub, Nat.reduceEqDiff, Nat.reduceLT, Nat.reduceLeDiff, Int.reduceEq, Int.reduceLT, Int.reduceLE, Int.reduceAdd, Int.reduceSub, Int.reduceNeg, Int.reduceToNat]
  case step =>
    rintro g h4 ⟨q, g0, g7, g9, g11, g14, g15, g16, hq, rfl⟩
    have hO4 := hO.keep kp (by simp)
    have hlenS := hO4.sl.lenAt h4
    by_cases hql : q < ps.length
    case pos =>
      have e2 : ((q : Int) < (ps.length : Int)) := by omega
      have e3 : (0 : Int) ≤ (q : Int) := by omega
      have e5 : IntKind.i64.wrap ((q : Int) + 1) = (q : Int) + 1 := i64_id (by omega) (by omega)
      obtain ⟨jr, off, cap, op, c, ro, e, rfl, hj, hgj, hb, hd4, _, _, hat⟩ := hO4.sl.elem (enc := encVt) (fun a => rfl) (by omega) (List.getElem?_eq_getElem hql)
      have etk : ps.take (q + 1) = ps.take q ++ [ps[q]] := (List.take_succ_eq_append_getElem hql)
      generalize ps[q] = p at hd4 hat etk
      have c0 : c[off + q * 4]? = some (.int .i64 p.1.bal) := by have := hat 0 (by omega); simpa [encVt, voteV] using this
      have c1 : c[off + (q * 4 + 1)]? = some (.int .i64 p.1.c.num) := by have := hat 1 (by omega); simpa [encVt, voteV] using this
      have ebs : best fr 21 num ((ps.take (q + 1)).map (·.1)) = bestS fr 21 num (best fr 21 num ((ps.take q).map (·.1))) p.1 := by
        rw [etk, List.map_append]
        unfold best
        rw [List.foldl_append]
        rfl
      obtain ⟨m, hm⟩ : ∃ m, m = best fr 21 num ((ps.take q).map (·.1)) := ⟨_, rfl⟩
      rw [← hm] at g15 ebs
      have fin : ∀ g' : Fr, g' 0 = .int .i64 fr → g' 7 = .ptr (some (i, 0)) → g' 9 = .int .i64 21 → g' 11 = .slice (some (jr, off)) ps.length cap none op → g' 14 = .int .i64 num → g' 15 = .int .i64 (bestS fr 21 num m p.1) → g' 16 = .int .i64 ((q : Int) + 1) →
          bin3I h4 i fr (.slice (some (jr, off)) ps.length cap none op) num ps g' h4 ∧ bin3M ps.length g' h4 < bin3M ps.length g h4 := by
        intro g' a0 a1 a2 a3 a4 a5 a6
        refine ⟨⟨q + 1, a0, a1, a2, a3, a4, by rw [ebs]; exact a5, by rw [a6]; rfl, by omega, rfl⟩, ?_⟩
        simp only [bin3M, g16, a6]
        omega
      by_cases d1 : p.1.c.num = num
      case neg =>
        have hb : bestS fr 21 num m p.1 = m := if_neg (fun h => d1 h.1)
        simp only [go_sem, ↓reduceIte, Nat.reduceAdd, Nat.reduceMul, Nat.reduceSub, Nat.reduceEqDiff, Nat.reduceLT, Nat.reduceLeDiff, Int.reduceEq, Int.reduceLT, Int.reduceLE, Int.reduceAdd, Int.reduceSub, Int.reduceNeg, Int.reduceToNat, c_law16_LeadBinds_l0, g0, g7, g9, g11, g14, g15, g16, hlenS, e2, e3, cellAt, cellsAt, aput?, get_alloc_eq, get_alloc_lt, get_set_eq, get_set_lt, Nat.add_left_cancel_iff, Nat.add_eq_left, Nat.left_eq_add, Nat.lt_add_right_iff_pos, Nat.add_lt_add_iff_left, Nat.add_eq_zero_iff, Nat.zero_lt_succ, Nat.lt_add_one, List.length_cons, List.length_nil, Nat.le_refl, and_self, hgj, c0, c1, d1, e5, Int.toNat_natCast]
        refine fin _ ?_ ?_ ?_ ?_ ?_ ?_ ?_ <;> simp only [go_sem, ↓reduceIte, Nat.reduceAdd, Nat.reduceMul, Nat.reduceSub, Nat.reduceEqDiff, Nat.reduceLT, Nat.reduceLeDiff, Int.reduceEq, Int.reduceLT, Int.reduceLE, Int.reduceAdd, Int.reduceSub, Int.reduceNeg, Int.reduceToNat, g0, g7, g9, g11, g14, g15, hb]
      by_cases d2 : fr ≤ num
      case neg =>
        have hb : bestS fr 21 num m p.1 = m := if_neg (fun h => d2 h.2.1)
        simp only [go_sem, ↓reduceIte, Nat.reduceAdd, Nat.reduceMul, Nat.reduceSub, Nat.reduceEqDiff, Nat.reduceLT, Nat.reduceLeDiff, Int.reduceEq, Int.reduceLT, Int.reduceLE, Int.reduceAdd, Int.reduceSub, Int.reduceNeg, Int.reduceToNat, c_law16_LeadBinds_l0, g0, g7, g9, g11, g14, g15, g16, hlenS, e2, e3, cellAt, cellsAt, aput?, get_alloc_eq, get_alloc_lt, get_set_eq, get_set_lt, Nat.add_left_cancel_iff, Nat.add_eq_left, Nat.left_eq_add, Nat.lt_add_right_iff_pos, Nat.add_lt_add_iff_left, Nat.add_eq_zero_iff, Nat.zero_lt_succ, Nat.lt_add_one, List.length_cons, List.length_nil, Nat.le_refl, and_self, hgj, c0, c1, d1, d2, e5, Int.toNat_natCast]
        refine fin _ ?_ ?_ ?_ ?_ ?_ ?_ ?_ <;> simp only [go_sem, ↓reduceIte, Nat.reduceAdd, Nat.reduceMul, Nat.reduceSub, Nat.reduceEqDiff, Nat.reduceLT, Nat.reduceLeDiff, Int.reduceEq, Int.reduceLT, Int.reduceLE, Int.reduceAdd, Int.reduceSub, Int.reduceNeg, Int.reduceToNat, g0, g7, g9, g11, g14, g15, hb]
      by_cases d3 : p.1.bal < 21
      case neg =>
        have hb : bestS fr 21 num m p.1 = m := if_neg (fun h => d3 h.2.2)
        simp only [go_sem, ↓reduceIte, Nat.reduceAdd, Nat.reduceMul, Nat.reduceSub, Nat.reduceEqDiff, Nat.reduceLT, Nat.reduceLeDiff, Int.reduceEq, Int.reduceLT, Int.reduceLE, Int.reduceAdd, Int.reduceSub, Int.reduceNeg, Int.reduceToNat, c_law16_LeadBinds_l0, g0, g7, g9, g11, g14, g15, g16, hlenS, e2, e3, cellAt, cellsAt, aput?, get_alloc_eq, get_alloc_lt, get_set_eq, get_set_lt, Nat.add_left_cancel_iff, Nat.add_eq_left, Nat.left_eq_add, Nat.lt_add_right_iff_pos, Nat.add_lt_add_iff_left, Nat.add_eq_zero_iff, Nat.zero_lt_succ, Nat.lt_add_one, List.length_cons, List.length_nil, Nat.le_refl, and_self, hgj, c0, c1, d1, d2, d3, e5, Int.toNat_natCast]
        refine fin _ ?_ ?_ ?_ ?_ ?_ ?_ ?_ <;> simp only [go_sem, ↓reduceIte, Nat.reduceAdd, Nat.reduceMul, Nat.reduceSub, Nat.reduceEqDiff, Nat.reduceLT, Nat.reduceLeDiff, Int.reduceEq, Int.reduceLT, Int.reduceLE, Int.reduceAdd, Int.reduceSub, Int.reduceNeg, Int.reduceToNat, g0, g7, g9, g11, g14, g15, hb]
      have hb : bestS fr 21 num m p.1 = max m p.1.bal := if_pos ⟨d1, d2, d3⟩
      simp only [go_sem, ↓reduceIte, Nat.reduceAdd, Nat.reduceMul, Nat.reduceSub, Nat.reduceEqDiff, Nat.reduceLT, Nat.reduceLeDiff, Int.reduceEq, Int.reduceLT, Int.reduceLE, Int.reduceAdd, Int.reduceSub, Int.reduceNeg, Int.reduceToNat, c_law16_LeadBinds_l0, g0, g7, g9, g11, g14, g15, g16, hlenS, e2, e3, cellAt, cellsAt, aput?, get_alloc_eq, get_alloc_lt, get_set_eq, get_set_lt, Nat.add_left_cancel_iff, Nat.add_eq_left, Nat.left_eq_add, Nat.lt_add_right_iff_pos, Nat.add_lt_add_iff_left, Nat.add_eq_zero_iff, Nat.zero_lt_succ, Nat.lt_add_one, List.length_cons, List.length_nil, Nat.le_refl, and_self, hgj, c0, c1, d1, d2, d3, e5, Int.toNat_natCast]
      refine fin _ ?_ ?_ ?_ ?_ ?_ ?_ ?_ <;> simp only [go_sem, ↓reduceIte, Nat.reduceAdd, Nat.reduceMul, Nat.reduceSub, Nat.reduceEqDiff, Nat.reduceLT, Nat.reduceLeDiff, Int.reduceEq, Int.reduceLT, Int.reduceLE, Int.reduceAdd, Int.reduceSub, Int.reduceNeg, Int.reduceToNat, g0, g7, g9, g11, g14, g15, hb]
    have e2 : ¬ ((q : Int) < (ps.length : Int)) := by omega
    have etk : ps.take q = ps := List.take_of_length_le (by omega)
    rw [etk] at g15
    have hBR : BR fr 21 num ((ps.map (·.1)).foldl (bind1 fr 21) []) (best fr 21 num (ps.map (·.1))) := BR.fold _ ⟨by omega, by simp [bget]⟩ (fun v hv => by
      obtain ⟨p, hp, rfl⟩ := List.mem_map.1 hv
      obtain ⟨r, hr⟩ := hch p hp
      rw [hr]
      exact ⟨by show 0 ≤ r.1 % 24; omega, rfl⟩)
    have hbl := best_le (f := fr) (b := 21) (x := num) (by omega) (ps.map (·.1))
    have hcl : ∀ b ∈ (ps.map (·.1)).foldl (bind1 fr 21) [], b.c.chain.length ≤ 2 ^ 36 := fun b hb => by
      rcases binds_mem hb with hb | hb
      · obtain ⟨p, hp, rfl⟩ := List.mem_map.1 hb
        obtain ⟨r, hr⟩ := hch p hp
        rw [hr]
        simp [mkVt]
      · cases hb
    have hBd := Bound_ok (G := G) E.free (r3.keep kp (by simp)) hcl (num := num)
    obtain ⟨hBR0, hBR1⟩ := hBR
    obtain ⟨m, hm⟩ : ∃ m, m = best fr 21 num (ps.map (·.1)) := ⟨_, rfl⟩
    rw [← hm] at g15 hBR0 hBR1 hbl
    have hBd' : FW PR G ov n_lead_Lead_Bound [.ptr (some (i, 0)), .int .i64 num] h4 (CfgPost h4 (bcfg (if 0 < m then some ⟨m, ⟨num, 1, [10 + m]⟩⟩ else none)) (if 0 < m then some ⟨m, ⟨num, 1, [10 + m]⟩⟩ else none : Option Vt).isSome) := by
      rw [← hBR1]
      exact hBd
    have e6 : IntKind.i64.wrap ((num : Int) + 1) = (num : Int) + 1 := i64_id (by omega) (by omega)
    have e7 : IntKind.i64.wrap (10 + m) = 10 + m := i64_id (by omega) (by omega)
    by_cases hmp : 0 < m
    · rw [if_pos hmp] at hBd'
      have hBd2 : FW PR G ov n_lead_Lead_Bound [.ptr (some (i, 0)), .int .i64 num] h4 (CfgPost h4 ⟨num, 1, [10 + m]⟩ true) := hBd'
      simp only [go_sem, ↓reduceIte, Nat.reduceAdd, Nat.reduceMul, Nat.reduceSub, Nat.reduceEqDiff, Nat.reduceLT, Nat.reduceLeDiff, Int.reduceEq, Int.reduceLT, Int.reduceLE, Int.reduceAdd, Int.reduceSub, Int.reduceNeg, Int.reduceToNat, c_law16_LeadBinds_l0, g0, g7, g9, g11, g14, g15, g16, hlenS, e2]
      refine hBd2.mono ?_
      rintro v1 h5 ⟨s, ids5, rfl, k5, hS, hf⟩
      have hsl := hS.leaf
      simp only [go_sem, ↓reduceIte, Nat.reduceAdd, Nat.reduceMul, Nat.reduceSub, Nat.reduceEqDiff, Nat.reduceLT, Nat.reduceLeDiff, Int.reduceEq, Int.reduceLT, Int.reduceLE, Int.reduceAdd, Int.reduceSub, Int.reduceNeg, Int.reduceToNat, g0, g7, g9, g11, g14, g15, g16, cellAt, cellsAt, aput?, get_alloc_eq, get_alloc_lt, get_set_eq, get_set_lt, Nat.add_left_cancel_iff, Nat.add_eq_left, Nat.left_eq_add, Nat.lt_add_right_iff_pos, Nat.add_lt_add_iff_left, Nat.add_eq_zero_iff, Nat.zero_lt_succ, Nat.lt_add_one, List.length_cons, List.length_nil, Nat.le_refl, and_self, hsl, hmp, e7]
      refine (is_ok E.free (hS.keep (((Keep.refl [] h5).alloc (.cells [.int .i64 0, .int .i64 0, .slice none 0 0 none false] false 1)).set (i := h5.n) (.cells [.int .i64 num, .int .i64 1, s] false 1) (.inr (Nat.le_refl _))) (by simp)) (by simp)).mono ?_
      rintro v2 h7 ⟨rfl, k7⟩
      simp only [go_sem, ↓reduceIte, Nat.reduceAdd, Nat.reduceMul, Nat.reduceSub, Nat.reduceEqDiff, Nat.reduceLT, Nat.reduceLeDiff, Int.reduceEq, Int.reduceLT, Int.reduceLE, Int.reduceAdd, Int.reduceSub, Int.reduceNeg, Int.reduceToNat, g0, g7, g9, g11, g14, g15, g16]
      refine ⟨⟨num + 1, ?_, ?_, ?_, ?_, ?_, by omega, (((kp.then0 k5).alloc _).set _ (.inr (Nat.le_trans kp.1 k5.1))).then0 k7⟩, ?_⟩
      · simp only [go_sem, ↓reduceIte, Nat.reduceAdd, Nat.reduceMul, Nat.reduceSub, Nat.reduceEqDiff, Nat.reduceLT, Nat.reduceLeDiff, Int.reduceEq, Int.reduceLT, Int.reduceLE, Int.reduceAdd, Int.reduceSub, Int.reduceNeg, Int.reduceToNat, g0]
      · simp only [go_sem, ↓reduceIte, Nat.reduceAdd, Nat.reduceMul, Nat.reduceSub, Nat.reduceEqDiff, Nat.reduceLT, Nat.reduceLeDiff, Int.reduceEq, Int.reduceLT, Int.reduceLE, Int.reduceAdd, Int.reduceSub, Int.reduceNeg, Int.reduceToNat, g7]
      · simp only [go_sem, ↓reduceIte, Nat.reduceAdd, Nat.reduceMul, Nat.reduceSub, Nat.reduceEqDiff, Nat.reduceLT, Nat.reduceLeDiff, Int.reduceEq, Int.reduceLT, Int.reduceLE, Int.reduceAdd, Int.reduceSub, Int.reduceNeg, Int.reduceToNat, g9]
      · simp only [go_sem, ↓reduceIte, Nat.reduceAdd, Nat.reduceMul, Nat.reduceSub, Nat.reduceEqDiff, Nat.reduceLT, Nat.reduceLeDiff, Int.reduceEq, Int.reduceLT, Int.reduceLE, Int.reduceAdd, Int.reduceSub, Int.reduceNeg, Int.reduceToNat, g11]
      · simp only [go_sem, ↓reduceIte, Nat.reduceAdd, Nat.reduceMul, Nat.reduceSub, Nat.reduceEqDiff, Nat.reduceLT, Nat.reduceLeDiff, Int.reduceEq, Int.reduceLT, Int.reduceLE, Int.reduceAdd, Int.reduceSub, Int.reduceNeg, Int.reduceToNat, e6]
        rfl
      · simp only [bin2M, f14]
        simp only [go_sem, ↓reduceIte, Nat.reduceAdd, Nat.reduceMul, Nat.reduceSub, Nat.reduceEqDiff, Nat.reduceLT, Nat.reduceLeDiff, Int.reduceEq, Int.reduceLT, Int.reduceLE, Int.reduceAdd, Int.reduceSub, Int.reduceNeg, Int.reduceToNat, e6]
        omega
    · rw [if_neg hmp] at hBd'
      have hBd2 : FW PR G ov n_lead_Lead_Bound [.ptr (some (i, 0)), .int .i64 num] h4 (CfgPost h4 ⟨0, 0, []⟩ false) := hBd'
      simp only [go_sem, ↓reduceIte, Nat.reduceAdd, Nat.reduceMul, Nat.reduceSub, Nat.reduceEqDiff, Nat.reduceLT, Nat.reduceLeDiff, Int.reduceEq, Int.reduceLT, Int.reduceLE, Int.reduceAdd, Int.reduceSub, Int.reduceNeg, Int.reduceToNat, c_law16_LeadBinds_l0, g0, g7, g9, g11, g14, g15, g16, hlenS, e2]
      refine hBd2.mono ?_
      rintro v1 h5 ⟨s, ids5, rfl, k5, hS, hf⟩
      have hsl := hS.leaf
      simp only [go_sem, ↓reduceIte, Nat.reduceAdd, Nat.reduceMul, Nat.reduceSub, Nat.reduceEqDiff, Nat.reduceLT, Nat.reduceLeDiff, Int.reduceEq, Int.reduceLT, Int.reduceLE, Int.reduceAdd, Int.reduceSub, Int.reduceNeg, Int.reduceToNat, g0, g7, g9, g11, g14, g15, g16, cellAt, cellsAt, aput?, get_alloc_eq, get_alloc_lt, get_set_eq, get_set_lt, Nat.add_left_cancel_iff, Nat.add_eq_left, Nat.left_eq_add, Nat.lt_add_right_iff_pos, Nat.add_lt_add_iff_left, Nat.add_eq_zero_iff, Nat.zero_lt_succ, Nat.lt_add_one, List.length_cons, List.length_nil, Nat.le_refl, and_self, hsl, hmp, e7, e6]
      refine ⟨⟨num + 1, ?_, ?_, ?_, ?_, ?_, by omega, ((kp.then0 k5).alloc _).set _ (.inr (Nat.le_trans kp.1 k5.1))⟩, ?_⟩
      · simp only [go_sem, ↓reduceIte, Nat.reduceAdd, Nat.reduceMul, Nat.reduceSub, Nat.reduceEqDiff, Nat.reduceLT, Nat.reduceLeDiff, Int.reduceEq, Int.reduceLT, Int.reduceLE, Int.reduceAdd, Int.reduceSub, Int.reduceNeg, Int.reduceToNat, g0]
      · simp only [go_sem, ↓reduceIte, Nat.reduceAdd, Nat.reduceMul, Nat.reduceSub, Nat.reduceEqDiff, Nat.reduceLT, Nat.reduceLeDiff, Int.reduceEq, Int.reduceLT, Int.reduceLE, Int.reduceAdd, Int.reduceSub, Int.reduceNeg, Int.reduceToNat, g7]
      · simp only [go_sem, ↓reduceIte, Nat.reduceAdd, Nat.reduceMul, Nat.reduceSub, Nat.reduceEqDiff, Nat.reduceLT, Nat.reduceLeDiff, Int.reduceEq, Int.reduceLT, Int.reduceLE, Int.reduceAdd, Int.reduceSub, Int.reduceNeg, Int.reduceToNat, g9]
      · simp only [go_sem, ↓reduceIte, Nat.reduceAdd, Nat.reduceMul, Nat.reduceSub, Nat.reduceEqDiff, Nat.reduceLT, Nat.reduceLeDiff, Int.reduceEq, Int.reduceLT, Int.reduceLE, Int.reduceAdd, Int.reduceSub, Int.reduceNeg, Int.reduceToNat, g11]
      · simp only [go_sem, ↓reduceIte, Nat.reduceAdd, Nat.reduceMul, Nat.reduceSub, Nat.reduceEqDiff, Nat.reduceLT, Nat.reduceLeDiff, Int.reduceEq, Int.reduceLT, Int.reduceLE, Int.reduceAdd, Int.reduceSub, Int.reduceNeg, Int.reduceToNat, e6]
        rfl
      · simp only [bin2M, f14]
        simp only [go_sem, ↓reduceIte, Nat.reduceAdd, Nat.reduceMul, Nat.reduceSub, Nat.reduceEqDiff, Nat.reduceLT, Nat.reduceLeDiff, Int.reduceEq, Int.reduceLT, Int.reduceLE, Int.reduceAdd, Int.reduceSub, Int.reduceNeg, Int.reduceToNat, e6]
        omega

set_option maxHeartbeats 2000000 in
theorem binds_run (E : LdEnv G ov) (hT : HasTab h) {v : AV} {rows : List (Int × Int × Int)} {ids : List Nat} (hs : Sl h 3 v rows.length (rows.flatMap enc3) ids) {fr many : Int} :
    FW PR G ov n_law16_LeadBinds [.int .i64 fr, v, .int .i64 many] h (fun u _ => u = .bool true) := by
  refine call_law16_LeadBinds (E.free.no _ rfl) ?_
  have hB5 := fun (x : Int) (h1 : AHeap) (K : AV → AHeap → Prop) => Bring_eq (G := G) (h := h1) (E.free.no n_ref00_Bring rfl) (x := x) (n := 5) (by omega) (by omega) K
  have w1 : IntKind.i64.wrap (1 + fr % 5) = 1 + fr % 5 := i64_id (by omega) (by omega)
  simp only [go_sem, ↓reduceIte, Nat.reduceAdd, Nat.reduceMul, Nat.reduceSub, Nat.reduceEqDiff, Nat.reduceLT, Nat.reduceLeDiff, Int.reduceEq, Int.reduceLT, Int.reduceLE, Int.reduceAdd, Int.reduceSub, Int.reduceNeg, Int.reduceToNat, c_law16_LeadBinds, hB5, w1]
  obtain ⟨from', hfr⟩ : ∃ x, x = 1 + fr % 5 := ⟨_, rfl⟩
  have hf1 : 1 ≤ from' ∧ from' ≤ 5 := by omega
  rw [← hfr]
  refine (New_rep E.free (show (0:Int) ≤ 0 by omega) (show (0:Int) < 3 by omega)).mono ?_
  rintro u h1 ⟨rfl, k1, r1⟩
  simp only [go_sem, ↓reduceIte, Nat.reduceAdd, Nat.reduceMul, Nat.reduceSub, Nat.reduceEqDiff, Nat.reduceLT, Nat.reduceLeDiff, Int.reduceEq, Int.reduceLT, Int.reduceLE, Int.reduceAdd, Int.reduceSub, Int.reduceNeg, Int.reduceToNat, cellAt, cellsAt, aput?, get_alloc_eq, get_alloc_lt, get_set_eq, get_set_lt, Nat.add_left_cancel_iff, Nat.add_eq_left, Nat.left_eq_add, Nat.lt_add_right_iff_pos, Nat.add_lt_add_iff_left, Nat.add_eq_zero_iff, Nat.zero_lt_succ, Nat.lt_add_one, List.length_cons, List.length_nil, Nat.le_refl, and_self]
  refine (Start_rep E.free r1 (by simp) (by simp) (by simp) (by simp) (show (0:Int) ≤ 20 by omega) (by omega) hf1.1 (by omega)).mono ?_
  rintro u hL ⟨rfl, k2, idsL, rL, hidL⟩
  have e21 : nextB 0 20 0 = 21 := by decide
  simp only [e21] at rL ⊢
  simp only [go_sem, ↓reduceIte, Nat.reduceAdd, Nat.reduceMul, Nat.reduceSub, Nat.reduceEqDiff, Nat.reduceLT, Nat.reduceLeDiff, Int.reduceEq, Int.reduceLT, Int.reduceLE, Int.reduceAdd, Int.reduceSub, Int.reduceNeg, Int.reduceToNat, cellAt, cellsAt, aput?, get_alloc_eq, get_alloc_lt, get_set_eq, get_set_lt, Nat.add_left_cancel_iff, Nat.add_eq_left, Nat.left_eq_add, Nat.lt_add_right_iff_pos, Nat.add_lt_add_iff_left, Nat.add_eq_zero_iff, Nat.zero_lt_succ, Nat.lt_add_one, List.length_cons, List.length_nil, Nat.le_refl, and_self]
  refine WC_loop (binI hL h.n from' many v rows) binM ?init ?step
  case init =>
    refine ⟨0, [], .slice none 0 0 none false, none, [], ?_, ?_, ?_, ?_, ?_, ?_, ?_, by omega, by omega, rfl, ⟨⟨rfl, rfl, rfl⟩, by simp, by simp⟩, Keep.refl _ _⟩
    · simp only [go_sem, ↓reduceIte, Nat.reduceAdd, Nat.reduceMul, Nat.reduceSub, Nat.reduceEqDiff, Nat.reduceLT, Nat.reduceLeDiff, Int.reduceEq, Int.reduceLT, Int.reduceLE, Int.reduceAdd, Int.reduceSub, Int.reduceNeg, Int.reduceToNat]
    · simp only [go_sem, ↓reduceIte, Nat.reduceAdd, Nat.reduceMul, Nat.reduceSub, Nat.reduceEqDiff, Nat.reduceLT, Nat.reduceLeDiff, Int.reduceEq, Int.reduceLT, Int.reduceLE, Int.reduceAdd, Int.reduceSub, Int.reduceNeg, Int.reduceToNat]
    · simp only [go_sem, ↓reduceIte, Nat.reduceAdd, Nat.reduceMul, Nat.reduceSub, Nat.reduceEqDiff, Nat.reduceLT, Nat.reduceLeDiff, Int.reduceEq, Int.reduceLT, Int.reduceLE, Int.reduceAdd, Int.reduceSub, Int.reduceNeg, Int.reduceToNat]
    · simp only [go_sem, ↓reduceIte, Nat.reduceAdd, Nat.reduceMul, Nat.reduceSub, Nat.reduceEqDiff, Nat.reduceLT, Nat.reduceLeDiff, Int.reduceEq, Int.reduceLT, Int.reduceLE, Int.reduceAdd, Int.reduceSub, Int.reduceNeg, Int.reduceToNat]
    · simp only [go_sem, ↓reduceIte, Nat.reduceAdd, Nat.reduceMul, Nat.reduceSub, Nat.reduceEqDiff, Nat.reduceLT, Nat.reduceLeDiff, Int.reduceEq, Int.reduceLT, Int.reduceLE, Int.reduceAdd, Int.reduceSub, Int.reduceNeg, Int.reduceToNat]
    · simp only [go_sem, ↓reduceIte, Nat.reduceAdd, Nat.reduceMul, Nat.reduceSub, Nat.reduceEqDiff, Nat.reduceLT, Nat.reduceLeDiff, Int.reduceEq, Int.reduceLT, Int.reduceLE, Int.reduceAdd, Int.reduceSub, Int.reduceNeg, Int.reduceToNat]
    · simp only [go_sem, ↓reduceIte, Nat.reduceAdd, Nat.reduceMul, Nat.reduceSub, Nat.reduceEqDiff, Nat.reduceLT, Nat.reduceLeDiff, Int.reduceEq, Int.reduceLT, Int.reduceLE, Int.reduceAdd, Int.reduceSub, Int.reduceNeg, Int.reduceToNat]
  case step =>
    rintro f h' ⟨k, ps, w, j, cids, f0, f1, f2, f7, f9, f11, f12, hk12, hkl, hmap, hV, kp⟩
    have hpk : ps.length = k := by have := congrArg List.length hmap; simp at this; omega
    have hlen := hs.lenAt h'
    by_cases hgo : k < rows.length ∧ k < 12
    case neg =>
      have hch : ∀ p ∈ ps, ∃ r, p.1 = mkVt r := fun p hp => by
        have : p.1 ∈ ps.map (·.1) := List.mem_map.2 ⟨p, hp, rfl⟩
        rw [hmap] at this
        obtain ⟨r, _, hr⟩ := List.mem_map.1 this
        exact ⟨r, hr.symm⟩
      subst hpk
      have l0 := AHeap.get_lt hT
      obtain ⟨_, _, _, rg, _, _, _, rlt⟩ := id rL
      obtain ⟨_, _, _, rg1, _⟩ := id r1
      have l1 := AHeap.get_lt rg1
      have l2 := k2.1
      have l3 := kp.1
      have hT' : HasTab h' := ((k1.trans0 k2).then0 kp).get hT (by simp; omega)
      have e5 : IntKind.i64.wrap ((ps.length : Int) + 1) = (ps.length : Int) + 1 := i64_id (by omega) (by omega)
      have hBm := fun (K : AV → AHeap → Prop) => Bring_eq (G := G) (h := h') (E.free.no n_ref00_Bring rfl) (x := many) (n := (ps.length : Int) + 1) (by omega) (by omega) K
      obtain ⟨u, hu⟩ : ∃ u : Nat, many % ((ps.length : Int) + 1) = u := ⟨(many % ((ps.length : Int) + 1)).toNat, by have := Int.emod_nonneg many (show (ps.length : Int) + 1 ≠ 0 by omega); omega⟩
      have hun : u ≤ ps.length := by
        have := Int.emod_lt_of_pos many (show (0 : Int) < (ps.length : Int) + 1 by omega)
        omega
      obtain ⟨w1, hw1, hs1⟩ := hV.1.hi (by omega) hun
      rw [flat_take (enc := encVt) (esz := 4) (fun p => rfl)] at hs1
      have hvids : ∀ x ∈ j.toList ++ cids, hL.n ≤ x ∧ x < h'.n := fun x hx => by
        rcases List.mem_append.1 hx with hx | hx
        · exact hV.1.lt x hx
        · exact ⟨(hV.2.2 x hx).1, (hV.2.2 x hx).2.1⟩
      have hV1 : Votes h' w1 (ps.take u) (j.toList ++ cids) := by
        refine ⟨?_, fun p hp => ⟨(hV.2.1 p (List.mem_of_mem_take hp)).mono (fun x hx => List.mem_append_right _ hx), ?_⟩⟩
        · rw [List.length_take, Nat.min_eq_left hun]
          exact hs1.mono (fun x hx => List.mem_append_left _ hx)
        · obtain ⟨r, hr⟩ := hch p (List.mem_of_mem_take hp)
          rw [hr]
          simp [mkVt]
      have hlenS := hV.1.sl.lenAt h'
      have hcond : (¬ ((ps.length : Int) < (rows.length : Int))) ∨ ((ps.length : Int) < (rows.length : Int) ∧ ¬ ((ps.length : Int) < 12)) := by omega
      have hP1 := Promise_ok (G := G) E hT' (rL.keep kp (by simp)) (who := 1) (by omega) rfl ⟨by simp, by simp⟩ hV1 (fun x hx => by have := hvids x hx; exact ⟨by omega, fun hx2 => by have := rlt x hx2; omega⟩) ⟨by omega, fun h0 => by have := hidL 0 h0; omega⟩ (by rw [List.length_take]; omega)
      rcases hcond with e1 | ⟨e1, e2⟩
      · simp only [go_sem, ↓reduceIte, Nat.reduceAdd, Nat.reduceMul, Nat.reduceSub, Nat.reduceEqDiff, Nat.reduceLT, Nat.reduceLeDiff, Int.reduceEq, Int.reduceLT, Int.reduceLE, Int.reduceAdd, Int.reduceSub, Int.reduceNeg, Int.reduceToNat, c_law16_LeadBinds_l2, f0, f1, f2, f7, f9, f11, f12, hlen, e1, hlenS, e5, hBm, hu, hw1]
        refine hP1.mono ?_
        rintro u1 h2 ⟨rfl, kq1, ids2, r2, hi2⟩
        have hnL : ∀ x, hL.n ≤ x → x ∉ h.n :: idsL := fun x hx hc => by
          rcases List.mem_cons.1 hc with rfl | hc
          · omega
          · have := rlt x hc
            omega
        have hO2 := hV.1.keep kq1 (fun x hx hc => hnL x (hV.1.lt x hc).1 hx)
        obtain ⟨w2, hw2, hs2⟩ := hO2.lo (by omega) hun
        rw [flat_dropK (enc := encVt) (esz := 4) (fun p => rfl)] at hs2
        have hV2 : Votes h2 w2 (ps.drop u) (j.toList ++ cids) := by
          refine ⟨?_, fun p hp => ⟨((hV.2.1 p (List.mem_of_mem_drop hp)).keep kq1 (fun x hx hc => hnL x (hV.2.2 x hc).1 hx)).mono (fun x hx => List.mem_append_right _ hx), ?_⟩⟩
          · rw [List.length_drop]
            exact hs2.mono (fun x hx => List.mem_append_left _ hx)
          · obtain ⟨r, hr⟩ := hch p (List.mem_of_mem_drop hp)
            rw [hr]
            simp [mkVt]
        have hT2 : HasTab h2 := kq1.get hT' (by simp; exact ⟨by omega, fun h0 => by have := hidL 0 h0; omega⟩)
        have hid2 : ∀ x ∈ ids2, h.n < x ∧ (x < hL.n ∨ h'.n ≤ x) := fun x hx => by
          rcases hi2 x hx with h | h
          · have := hidL x h
            have := rlt x h
            omega
          · omega
        simp only [go_sem, ↓reduceIte, Nat.reduceAdd, Nat.reduceMul, Nat.reduceSub, Nat.reduceEqDiff, Nat.reduceLT, Nat.reduceLeDiff, Int.reduceEq, Int.reduceLT, Int.reduceLE, Int.reduceAdd, Int.reduceSub, Int.reduceNeg, Int.reduceToNat, f0, f1, f2, f7, f9, f11, f12, hw2]
        have hP2 := Promise_ok (G := G) E hT2 r2 (who := 2) (by omega) (show (if 2 ≤ pc3 (withB 0 1) then (2 : Int) else 1) = 1 by decide) (show 0 ≤ withB 0 1 ∧ withB 0 1 ≤ 7 by decide) hV2 (fun x hx => by
          have := hvids x hx
          exact ⟨by omega, fun hx2 => by have := hid2 x hx2; omega⟩) ⟨by omega, fun h0 => by have := hid2 0 h0; omega⟩ (by rw [List.length_drop]; omega)
        refine hP2.mono ?_
        rintro u2 h3 ⟨rfl, kq2, ids3, r3', hi3⟩
        have r3 : LdRep h3 h.n ids3 ⟨0, 21, from', 2, 6, 0, (ps.map (·.1)).foldl (bind1 from' 21) [], none⟩ := by
          have hbd : foldB { id := 0, b := 21, f := from', p := if 2 ≤ pc3 (withB 0 1) then 2 else 1, prom := withB 0 1, said := 0, bounds := foldB { id := 0, b := 21, f := from', p := 1, prom := 0, said := 0, bounds := [], pend := none } (ps.take u), pend := none } (ps.drop u) = (ps.map (·.1)).foldl (bind1 from' 21) [] := by
            rw [foldB_eq, foldB_eq]
            simp only
            rw [← List.foldl_append, ← List.map_append, List.take_append_drop]
          rw [← hbd]
          exact r3'
        have hO3 := hO2.keep kq2 (fun x hx hc => by
          have := hvids x (List.mem_append_left _ hc)
          rcases List.mem_cons.1 hx with rfl | hx
          · omega
          · have := hid2 x hx
            omega)
        have hT3 : HasTab h3 := kq2.get hT2 (by simp; exact ⟨by omega, fun h0 => by have := hid2 0 h0; omega⟩)
        simp only [go_sem, ↓reduceIte, Nat.reduceAdd, Nat.reduceMul, Nat.reduceSub, Nat.reduceEqDiff, Nat.reduceLT, Nat.reduceLeDiff, Int.reduceEq, Int.reduceLT, Int.reduceLE, Int.reduceAdd, Int.reduceSub, Int.reduceNeg, Int.reduceToNat, f0, f1, f2, f7, f9, f11, f12]
        refine WC_loop (bin2I h3 h.n from' w) bin2M ?init2 ?step2
        case init2 =>
          refine ⟨0, ?_, ?_, ?_, ?_, ?_, by omega, Keep.refl _ _⟩
          · simp only [go_sem, ↓reduceIte, Nat.reduceAdd, Nat.reduceMul, Nat.reduceSub, Nat.reduceEqDiff, Nat.reduceLT, Nat.reduceLeDiff, Int.reduceEq, Int.reduceLT, Int.reduceLE, Int.reduceAdd, Int.reduceSub, Int.reduceNeg, Int.reduceToNat, f0]
          · simp only [go_sem, ↓reduceIte, Nat.reduceAdd, Nat.reduceMul, Nat.reduceSub, Nat.reduceEqDiff, Nat.reduceLT, Nat.reduceLeDiff, Int.reduceEq, Int.reduceLT, Int.reduceLE, Int.reduceAdd, Int.reduceSub, Int.reduceNeg, Int.reduceToNat, f7]
          · simp only [go_sem, ↓reduceIte, Nat.reduceAdd, Nat.reduceMul, Nat.reduceSub, Nat.reduceEqDiff, Nat.reduceLT, Nat.reduceLeDiff, Int.reduceEq, Int.reduceLT, Int.reduceLE, Int.reduceAdd, Int.reduceSub, Int.reduceNeg, Int.reduceToNat, f9]
          · simp only [go_sem, ↓reduceIte, Nat.reduceAdd, Nat.reduceMul, Nat.reduceSub, Nat.reduceEqDiff, Nat.reduceLT, Nat.reduceLeDiff, Int.reduceEq, Int.reduceLT, Int.reduceLE, Int.reduceAdd, Int.reduceSub, Int.reduceNeg, Int.reduceToNat, f11]
          · simp only [go_sem, ↓reduceIte, Nat.reduceAdd, Nat.reduceMul, Nat.reduceSub, Nat.reduceEqDiff, Nat.reduceLT, Nat.reduceLeDiff, Int.reduceEq, Int.reduceLT, Int.reduceLE, Int.reduceAdd, Int.reduceSub, Int.reduceNeg, Int.reduceToNat]
        case step2 =>
          refine binds_loop E r3 hO3 hch hk12 ?_
          intro g h4 g7 kp4
          have r4 := r3.keep kp4 (by simp)
          obtain ⟨_, _, _, rg4, _⟩ := r4
          rw [ldCells] at rg4
          have hT4 : HasTab h4 := kp4.get hT3 (by simp)
          simp only [go_sem, ↓reduceIte, Nat.reduceAdd, Nat.reduceMul, Nat.reduceSub, Nat.reduceEqDiff, Nat.reduceLT, Nat.reduceLeDiff, Int.reduceEq, Int.reduceLT, Int.reduceLE, Int.reduceAdd, Int.reduceSub, Int.reduceNeg, Int.reduceToNat, g7, Phase_at E.free rg4, fun K => E.works h4 K hT4]
      · simp only [go_sem, ↓reduceIte, Nat.reduceAdd, Nat.reduceMul, Nat.reduceSub, Nat.reduceEqDiff, Nat.reduceLT, Nat.reduceLeDiff, Int.reduceEq, Int.reduceLT, Int.reduceLE, Int.reduceAdd, Int.reduceSub, Int.reduceNeg, Int.reduceToNat, c_law16_LeadBinds_l2, f0, f1, f2, f7, f9, f11, f12, hlen, e1, e2, hlenS, e5, hBm, hu, hw1]
        refine hP1.mono ?_
        rintro u1 h2 ⟨rfl, kq1, ids2, r2, hi2⟩
        have hnL : ∀ x, hL.n ≤ x → x ∉ h.n :: idsL := fun x hx hc => by
          rcases List.mem_cons.1 hc with rfl | hc
          · omega
          · have := rlt x hc
            omega
        have hO2 := hV.1.keep kq1 (fun x hx hc => hnL x (hV.1.lt x hc).1 hx)
        obtain ⟨w2, hw2, hs2⟩ := hO2.lo (by omega) hun
        rw [flat_dropK (enc := encVt) (esz := 4) (fun p => rfl)] at hs2
        have hV2 : Votes h2 w2 (ps.drop u) (j.toList ++ cids) := by
          refine ⟨?_, fun p hp => ⟨((hV.2.1 p (List.mem_of_mem_drop hp)).keep kq1 (fun x hx hc => hnL x (hV.2.2 x hc).1 hx)).mono (fun x hx => List.mem_append_right _ hx), ?_⟩⟩
          · rw [List.length_drop]
            exact hs2.mono (fun x hx => List.mem_append_left _ hx)
          · obtain ⟨r, hr⟩ := hch p (List.mem_of_mem_drop hp)
            rw [hr]
            simp [mkVt]
        have hT2 : HasTab h2 := kq1.get hT' (by simp; exact ⟨by omega, fun h0 => by have := hidL 0 h0; omega⟩)
        have hid2 : ∀ x ∈ ids2, h.n < x ∧ (x < hL.n ∨ h'.n ≤ x) := fun x hx => by
          rcases hi2 x hx with h | h
          · have := hidL x h
            have := rlt x h
            omega
          · omega
        simp only [go_sem, ↓reduceIte, Nat.reduceAdd, Nat.reduceMul, Nat.reduceSub, Nat.reduceEqDiff, Nat.reduceLT, Nat.reduceLeDiff, Int.reduceEq, Int.reduceLT, Int.reduceLE, Int.reduceAdd, Int.reduceSub, Int.reduceNeg, Int.reduceToNat, f0, f1, f2, f7, f9, f11, f12, hw2]
        have hP2 := Promise_ok (G := G) E hT2 r2 (who := 2) (by omega) (show (if 2 ≤ pc3 (withB 0 1) then (2 : Int) else 1) = 1 by decide) (show 0 ≤ withB 0 1 ∧ withB 0 1 ≤ 7 by decide) hV2 (fun x hx => by
          have := hvids x hx
          exact ⟨by omega, fun hx2 => by have := hid2 x hx2; omega⟩) ⟨by omega, fun h0 => by have := hid2 0 h0; omega⟩ (by rw [List.length_drop]; omega)
        refine hP2.mono ?_
        rintro u2 h3 ⟨rfl, kq2, ids3, r3', hi3⟩
        have r3 : LdRep h3 h.n ids3 ⟨0, 21, from', 2, 6, 0, (ps.map (·.1)).foldl (bind1 from' 21) [], none⟩ := by
          have hbd : foldB { id := 0, b := 21, f := from', p := if 2 ≤ pc3 (withB 0 1) then 2 else 1, prom := withB 0 1, said := 0, bounds := foldB { id := 0, b := 21, f := from', p := 1, prom := 0, said := 0, bounds := [], pend := none } (ps.take u), pend := none } (ps.drop u) = (ps.map (·.1)).foldl (bind1 from' 21) [] := by
            rw [foldB_eq, foldB_eq]
            simp only
            rw [← List.foldl_append, ← List.map_append, List.take_append_drop]
          rw [← hbd]
          exact r3'
        have hO3 := hO2.keep kq2 (fun x hx hc => by
          have := hvids x (List.mem_append_left _ hc)
          rcases List.mem_cons.1 hx with rfl | hx
          · omega
          · have := hid2 x hx
            omega)
        have hT3 : HasTab h3 := kq2.get hT2 (by simp; exact ⟨by omega, fun h0 => by have := hid2 0 h0; omega⟩)
        simp only [go_sem, ↓reduceIte, Nat.reduceAdd, Nat.reduceMul, Nat.reduceSub, Nat.reduceEqDiff, Nat.reduceLT, Nat.reduceLeDiff, Int.reduceEq, Int.reduceLT, Int.reduceLE, Int.reduceAdd, Int.reduceSub, Int.reduceNeg, Int.reduceToNat, f0, f1, f2, f7, f9, f11, f12]
        refine WC_loop (bin2I h3 h.n from' w) bin2M ?init2 ?step2
        case init2 =>
          refine ⟨0, ?_, ?_, ?_, ?_, ?_, by omega, Keep.refl _ _⟩
          · simp only [go_sem, ↓reduceIte, Nat.reduceAdd, Nat.reduceMul, Nat.reduceSub, Nat.reduceEqDiff, Nat.reduceLT, Nat.reduceLeDiff, Int.reduceEq, Int.reduceLT, Int.reduceLE, Int.reduceAdd, Int.reduceSub, Int.reduceNeg, Int.reduceToNat, f0]
          · simp only [go_sem, ↓reduceIte, Nat.reduceAdd, Nat.reduceMul, Nat.reduceSub, Nat.reduceEqDiff, Nat.reduceLT, Nat.reduceLeDiff, Int.reduceEq, Int.reduceLT, Int.reduceLE, Int.reduceAdd, Int.reduceSub, Int.reduceNeg, Int.reduceToNat, f7]
          · simp only [go_sem, ↓reduceIte, Nat.reduceAdd, Nat.reduceMul, Nat.reduceSub, Nat.reduceEqDiff, Nat.reduceLT, Nat.reduceLeDiff, Int.reduceEq, Int.reduceLT, Int.reduceLE, Int.reduceAdd, Int.reduceSub, Int.reduceNeg, Int.reduceToNat, f9]
          · simp only [go_sem, ↓reduceIte, Nat.reduceAdd, Nat.reduceMul, Nat.reduceSub, Nat.reduceEqDiff, Nat.reduceLT, Nat.reduceLeDiff, Int.reduceEq, Int.reduceLT, Int.reduceLE, Int.reduceAdd, Int.reduceSub, Int.reduceNeg, Int.reduceToNat, f11]
          · simp only [go_sem, ↓reduceIte, Nat.reduceAdd, Nat.reduceMul, Nat.reduceSub, Nat.reduceEqDiff, Nat.reduceLT, Nat.reduceLeDiff, Int.reduceEq, Int.reduceLT, Int.reduceLE, Int.reduceAdd, Int.reduceSub, Int.reduceNeg, Int.reduceToNat]
        case step2 =>
          refine binds_loop E r3 hO3 hch hk12 ?_
          intro g h4 g7 kp4
          have r4 := r3.keep kp4 (by simp)
          obtain ⟨_, _, _, rg4, _⟩ := r4
          rw [ldCells] at rg4
          have hT4 : HasTab h4 := kp4.get hT3 (by simp)
          simp only [go_sem, ↓reduceIte, Nat.reduceAdd, Nat.reduceMul, Nat.reduceSub, Nat.reduceEqDiff, Nat.reduceLT, Nat.reduceLeDiff, Int.reduceEq, Int.reduceLT, Int.reduceLE, Int.reduceAdd, Int.reduceSub, Int.reduceNeg, Int.reduceToNat, g7, Phase_at E.free rg4, fun K => E.works h4 K hT4]
    have e1 : ((k : Int) < (rows.length : Int)) := by omega
    have e2 : ((k : Int) < 12) := by omega
    have e3 : (0 : Int) ≤ (k : Int) := by omega
    have e5 : IntKind.i64.wrap ((k : Int) + 1) = (k : Int) + 1 := i64_id (by omega) (by omega)
    have kh : Keep [h.n] h h' := (k1.trans0 k2).then0 kp
    obtain ⟨jr, off, cap, op, c, ro, e, rfl, hj, hgj, hb, hd4, _, _, hat⟩ := hs.elem (enc := enc3) (fun a => rfl) (by omega) (List.getElem?_eq_getElem hgo.1)
    have hgj' := kh.get hgj (by have := AHeap.get_lt hgj; simp; omega)
    have etk : rows.take (k + 1) = rows.take k ++ [rows[k]] := (List.take_succ_eq_append_getElem hgo.1)
    generalize rows[k] = r at hd4 hat etk
    have c0 : c[off + k * 3]? = some (.int .i64 r.1) := by have := hat 0 (by omega); simpa [enc3] using this
    have c1 : c[off + (k * 3 + 1)]? = some (.int .i64 r.2.1) := by have := hat 1 (by omega); simpa [enc3] using this
    have hB24 := fun (x : Int) (h1 : AHeap) (K : AV → AHeap → Prop) => Bring_eq (G := G) (h := h1) (E.free.no n_ref00_Bring rfl) (x := x) (n := 24) (by omega) (by omega) K
    have hB8 := fun (x : Int) (h1 : AHeap) (K : AV → AHeap → Prop) => Bring_eq (G := G) (h := h1) (E.free.no n_ref00_Bring rfl) (x := x) (n := 8) (by omega) (by omega) K
    have w2 : IntKind.i64.wrap (10 + r.1 % 24) = 10 + r.1 % 24 := i64_id (by omega) (by omega)
    simp only [go_sem, ↓reduceIte, Nat.reduceAdd, Nat.reduceMul, Nat.reduceSub, Nat.reduceEqDiff, Nat.reduceLT, Nat.reduceLeDiff, Int.reduceEq, Int.reduceLT, Int.reduceLE, Int.reduceAdd, Int.reduceSub, Int.reduceNeg, Int.reduceToNat, c_law16_LeadBinds_l2, f0, f1, f2, f7, f9, f11, f12, hlen, e1, e2, e3, cellAt, cellsAt, aput?, get_alloc_eq, get_alloc_lt, get_set_eq, get_set_lt, Nat.add_left_cancel_iff, Nat.add_eq_left, Nat.left_eq_add, Nat.lt_add_right_iff_pos, Nat.add_lt_add_iff_left, Nat.add_eq_zero_iff, Nat.zero_lt_succ, Nat.lt_add_one, List.length_cons, List.length_nil, Nat.le_refl, and_self, hgj', c0, c1, hB24, hB8, w2, Int.toNat_natCast]
    refine (conf_ok E.free).mono ?_
    rintro u h4 ⟨s, rfl, k4, hS, hn4⟩
    have hsl := hS.leaf
    obtain ⟨h5, h5d⟩ : ∃ x, x = h4.alloc (.cells [.int .i64 (r.1 % 24), .int .i64 (r.2.1 % 8), .int .i64 1, s] false 4) := ⟨_, rfl⟩
    have k5 : Keep [] h4 h5 := by rw [h5d]; exact (Keep.refl _ _).alloc _
    have n5 : h5.n = h4.n + 1 := by rw [h5d]; rfl
    have g5 : h5.get h4.n = some (.cells [.int .i64 (r.1 % 24), .int .i64 (r.2.1 % 8), .int .i64 1, s] false 4) := by rw [h5d]; exact AHeap.get_alloc_self _ _
    have hO5 := (hV.1.keep k4 (by simp)).keep k5 (by simp)
    have hsrc : asource h5 4 (.slice (some (h4.n, 0)) 1 1 none false) 1 = some [.int .i64 (r.1 % 24), .int .i64 (r.2.1 % 8), .int .i64 1, s] := by
      simp only [asource]
      rw [if_neg (by omega), cellsAt_of g5 _ _ (by simp)]
      rfl
    obtain ⟨u, h6, ha, hO6, n6, k6⟩ := hO5.app (x := .slice (some (h4.n, 0)) 1 1 none false) (bytes := 48) (by have := kp.1; have := k4.1; omega) rfl hsrc rfl (by simp [AV.leaf]; exact hsl) (by omega) (by omega) (by omega)
    rw [h5d] at ha
    simp only [go_sem, ↓reduceIte, Nat.reduceAdd, Nat.reduceMul, Nat.reduceSub, Nat.reduceEqDiff, Nat.reduceLT, Nat.reduceLeDiff, Int.reduceEq, Int.reduceLT, Int.reduceLE, Int.reduceAdd, Int.reduceSub, Int.reduceNeg, Int.reduceToNat, f0, f1, f2, f7, f9, f11, f12, cellAt, cellsAt, aput?, get_alloc_eq, get_alloc_lt, get_set_eq, get_set_lt, Nat.add_left_cancel_iff, Nat.add_eq_left, Nat.left_eq_add, Nat.lt_add_right_iff_pos, Nat.add_lt_add_iff_left, Nat.add_eq_zero_iff, Nat.zero_lt_succ, Nat.lt_add_one, List.length_cons, List.length_nil, Nat.le_refl, and_self, hsl, ha, e5]
    refine ⟨⟨k + 1, ps ++ [(mkVt r, s)], u, some h5.n, (h'.n + 1) :: cids, ?_, ?_, ?_, ?_, ?_, ?_, ?_, by omega, by omega, ?_, ⟨?_, ?_, ?_⟩, ?_⟩, ?_⟩
    · simp only [go_sem, ↓reduceIte, Nat.reduceAdd, Nat.reduceMul, Nat.reduceSub, Nat.reduceEqDiff, Nat.reduceLT, Nat.reduceLeDiff, Int.reduceEq, Int.reduceLT, Int.reduceLE, Int.reduceAdd, Int.reduceSub, Int.reduceNeg, Int.reduceToNat, f0]
    · simp only [go_sem, ↓reduceIte, Nat.reduceAdd, Nat.reduceMul, Nat.reduceSub, Nat.reduceEqDiff, Nat.reduceLT, Nat.reduceLeDiff, Int.reduceEq, Int.reduceLT, Int.reduceLE, Int.reduceAdd, Int.reduceSub, Int.reduceNeg, Int.reduceToNat, f1]
    · simp only [go_sem, ↓reduceIte, Nat.reduceAdd, Nat.reduceMul, Nat.reduceSub, Nat.reduceEqDiff, Nat.reduceLT, Nat.reduceLeDiff, Int.reduceEq, Int.reduceLT, Int.reduceLE, Int.reduceAdd, Int.reduceSub, Int.reduceNeg, Int.reduceToNat, f2]
    · simp only [go_sem, ↓reduceIte, Nat.reduceAdd, Nat.reduceMul, Nat.reduceSub, Nat.reduceEqDiff, Nat.reduceLT, Nat.reduceLeDiff, Int.reduceEq, Int.reduceLT, Int.reduceLE, Int.reduceAdd, Int.reduceSub, Int.reduceNeg, Int.reduceToNat, f7]
    · simp only [go_sem, ↓reduceIte, Nat.reduceAdd, Nat.reduceMul, Nat.reduceSub, Nat.reduceEqDiff, Nat.reduceLT, Nat.reduceLeDiff, Int.reduceEq, Int.reduceLT, Int.reduceLE, Int.reduceAdd, Int.reduceSub, Int.reduceNeg, Int.reduceToNat, f9]
    · simp only [go_sem, ↓reduceIte, Nat.reduceAdd, Nat.reduceMul, Nat.reduceSub, Nat.reduceEqDiff, Nat.reduceLT, Nat.reduceLeDiff, Int.reduceEq, Int.reduceLT, Int.reduceLE, Int.reduceAdd, Int.reduceSub, Int.reduceNeg, Int.reduceToNat]
    · simp only [go_sem, ↓reduceIte, Nat.reduceAdd, Nat.reduceMul, Nat.reduceSub, Nat.reduceEqDiff, Nat.reduceLT, Nat.reduceLeDiff, Int.reduceEq, Int.reduceLT, Int.reduceLE, Int.reduceAdd, Int.reduceSub, Int.reduceNeg, Int.reduceToNat]
      rfl
    · rw [etk, List.map_append, List.map_append, hmap]
      rfl
    · rw [List.length_append, List.flatMap_append]
      exact hO6
    · intro p hp
      rcases List.mem_append.1 hp with hp | hp
      · exact ((((hV.2.1 p hp).keep k4 (by simp)).keep k5 (by simp)).keep k6 (fun x hx hc => (hV.2.2 x hc).2.2 hx)).mono (fun x hx => List.mem_cons_of_mem _ hx)
      · rw [List.mem_singleton.1 hp]
        refine ((hS.keep k5 (by simp)).keep k6 (fun x hx hc => ?_)).mono (fun x hx => by rw [List.mem_singleton.1 hx]; exact List.mem_cons_self)
        have := (hV.1.lt x hx).2
        rw [List.mem_singleton.1 hc] at this
        omega
    · have := kp.1
      have := k4.1
      intro x hx
      have hx' : x = h'.n + 1 ∨ x ∈ cids := List.mem_cons.1 hx
      rcases hx' with rfl | hx
      · refine ⟨by omega, by omega, ?_⟩
        simp
        omega
      · have := hV.2.2 x hx
        refine ⟨by omega, by omega, ?_⟩
        simp
        omega
    · exact (((kp.trans0 k4).trans0 k5).trans k6).mono (fun x hx => .inr (hV.1.lt x (by simpa using hx)).1)
    · simp only [binM, f12]
      simp only [go_sem, ↓reduceIte, Nat.reduceAdd, Nat.reduceMul, Nat.reduceSub, Nat.reduceEqDiff, Nat.reduceLT, Nat.reduceLeDiff, Int.reduceEq, Int.reduceLT, Int.reduceLE, Int.reduceAdd, Int.reduceSub, Int.reduceNeg, Int.reduceToNat]
      omega
end
end Go.Sv
