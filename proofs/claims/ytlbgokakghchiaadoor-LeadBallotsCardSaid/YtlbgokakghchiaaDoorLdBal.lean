/- YtlbgokakghchiaaDoorLdBal: texts of one's own, merged: LdBal. -/
import Derived.Test.YtlbgokakghchiaaDoorLdA
import Derived.Test.YtlbgokakghchiaaDoorSx9
set_option linter.all false
namespace Go.Sv
open Go Go.Proofs Go.Sx Go.RowKit
set_option maxRecDepth 100000

def bitTab : List Int := [0, 1, 56, 2, 57, 49, 28, 3, 61, 58, 42, 50, 38, 29, 17, 4, 62, 47, 59, 36, 45, 43, 51, 22, 53, 39, 33, 30, 24, 18, 12, 5, 63, 55, 48, 27, 60, 41, 37, 16, 46, 35, 44, 21, 52, 32, 23, 11, 54, 26, 40, 15, 34, 20, 31, 10, 25, 14, 19, 9, 13, 8, 7, 6]
def HasTab (h : AHeap) : Prop := h.get 0 = some (.cells (bitTab.map (.int .u8)) true 1)
structure LdEnv (G : Nat → Option Nat) (ov : Ovs) : Prop where
  free : LdFree ov
  works : ∀ h K, HasTab h → FW PR G ov n_law16_works [] h K = K (.bool true) h

def enc2 (r : Int × Int) : List AV := [.int .i64 r.1, .int .i64 r.2]

section
variable {G : Nat → Option Nat} {ov : Ovs} {h : AHeap}

/-- a leader's cells, as far as ballots go -/
def LdB (h : AHeap) (p : Nat) (id b : Int) : Prop := ∃ c2 c4 c5 c6 c7, h.get p = some (.cells [.int .i64 id, .int .i64 b, c2, .int .i64 1, c4, c5, c6, c7, .bool true] false 1)
def LdB0 (h : AHeap) (p : Nat) (id b : Int) : Prop := ∃ c2 c3 c4 c5 c6 c7, h.get p = some (.cells [.int .i64 id, .int .i64 b, c2, c3, c4, c5, c6, c7, .bool true] false 1)

theorem flat2 : ∀ (rows : List (Int × Int)) (i : Nat) (r : Int × Int), rows[i]? = some r → (rows.flatMap enc2)[i * 2]? = some (.int .i64 r.1) ∧ (rows.flatMap enc2)[i * 2 + 1]? = some (.int .i64 r.2)
  | [], i, r, h => by simp at h
  | x :: rows, 0, r, h => by simp at h; subst h; exact ⟨rfl, rfl⟩
  | x :: rows, i + 1, r, h => by
    rw [List.getElem?_cons_succ] at h
    obtain ⟨h1, h2⟩ := flat2 rows i r h
    rw [List.flatMap_cons, Nat.succ_mul]
    exact ⟨h1, h2⟩

/-- what a slice's row holds, at its places -/
theorem Sl.at {h : AHeap} {esz n : Nat} {a : Option (Nat × Nat)} {cap : Nat} {z : Option Nat} {op : Bool} {cs : List AV} {ids : List Nat} (s : Sl h esz (.slice a n cap z op) n cs ids) (hn : 0 < n) :
    ∃ j off c ro e, a = some (j, off) ∧ z = none ∧ j ∈ ids ∧ h.get j = some (.cells c ro e) ∧ off + n * esz ≤ c.length ∧ ∀ k, k < n * esz → c[off + k]? = cs[k]? := by
  obtain ⟨a', cap', z', op', h1, h2, h2a, h3, h4⟩ := s
  cases h1
  rcases h4 with ⟨h4, _⟩ | ⟨i, off, c, ro, e, h5, h6, h7, h8, h9, h10⟩
  · omega
  · refine ⟨i, off, c, ro, e, h5, h6, h7, h8, h9, fun k hk => ?_⟩
    rw [h10, List.getElem?_take, if_pos hk, List.getElem?_drop]

def balI (h : AHeap) (v : AV) (rows : List (Int × Int)) (f : Fr) (h' : AHeap) : Prop :=
  ∃ (i : Nat) (b0 b1 b2 : Int), f 0 = v ∧ f 3 = .ptr (some (h.n, 0)) ∧ f 4 = .ptr (some (h.n + 1, 0)) ∧ f 8 = .int .i64 i ∧ i ≤ 60 ∧ i ≤ rows.length ∧ Keep [] h h' ∧
    h'.get h.n = some (.cells [.ptr (some (h.n + 2, 0)), .ptr (some (h.n + 3, 0)), .ptr (some (h.n + 4, 0))] false 1) ∧
    h'.get (h.n + 1) = some (.cells [.int .i64 b0, .int .i64 b1, .int .i64 b2] false 1) ∧
    LdB0 h' (h.n + 2) 0 b0 ∧ LdB0 h' (h.n + 3) 1 b1 ∧ LdB0 h' (h.n + 4) 2 b2 ∧
    0 ≤ b0 ∧ 0 ≤ b1 ∧ 0 ≤ b2 ∧ b0 ≤ 2199023255552 + 3 * i ∧ b1 ≤ 2199023255552 + 3 * i ∧ b2 ≤ 2199023255552 + 3 * i
def balM (f : Fr) (_ : AHeap) : Nat := match f 8 with | .int _ i => (60 - i).toNat | _ => 0

theorem ballots_run (E : LdEnv G ov) (hT : HasTab h) {v : AV} {rows : List (Int × Int)} {ids : List Nat} (hs : Sl h 2 v rows.length (rows.flatMap enc2) ids)
    (hr : ∀ r ∈ rows, -9223372036854775808 ≤ r.1 ∧ r.1 ≤ 9223372036854775807 ∧ -9223372036854775808 ≤ r.2 ∧ r.2 ≤ 9223372036854775807) :
    FW PR G ov n_law16_LeadBallots [v] h (fun u _ => u = .bool true) := by
  refine call_law16_LeadBallots (E.free.no _ rfl) ?_
  simp only [go_sem, ↓reduceIte, Nat.reduceAdd, Nat.reduceMul, Nat.reduceSub, Nat.reduceEqDiff, Nat.reduceLT, Nat.reduceLeDiff, Int.reduceEq, Int.reduceLT, Int.reduceLE, Int.reduceAdd, Int.reduceSub, Int.reduceNeg, Int.reduceToNat, c_law16_LeadBallots]
  refine WC_round ?_
  simp only [go_sem, ↓reduceIte, Nat.reduceAdd, Nat.reduceMul, Nat.reduceSub, Nat.reduceEqDiff, Nat.reduceLT, Nat.reduceLeDiff, Int.reduceEq, Int.reduceLT, Int.reduceLE, Int.reduceAdd, Int.reduceSub, Int.reduceNeg, Int.reduceToNat, c_law16_LeadBallots_l1, New_ok E.free (show (0:Int) ≤ 0 by omega) (show (0:Int) < 3 by omega), cellAt, cellsAt, aput?, get_alloc_eq, get_alloc_lt, get_set_eq, get_set_lt, Nat.add_left_cancel_iff, Nat.add_eq_left, Nat.left_eq_add, Nat.lt_add_right_iff_pos, Nat.add_lt_add_iff_left, Nat.add_eq_zero_iff, Nat.zero_lt_succ, Nat.lt_add_one, List.length_cons, List.length_nil, Nat.le_refl, and_self, i64_id]
  refine WC_round ?_
  simp only [go_sem, ↓reduceIte, Nat.reduceAdd, Nat.reduceMul, Nat.reduceSub, Nat.reduceEqDiff, Nat.reduceLT, Nat.reduceLeDiff, Int.reduceEq, Int.reduceLT, Int.reduceLE, Int.reduceAdd, Int.reduceSub, Int.reduceNeg, Int.reduceToNat, c_law16_LeadBallots_l1, New_ok E.free (show (0:Int) ≤ 1 by omega) (show (1:Int) < 3 by omega), cellAt, cellsAt, aput?, get_alloc_eq, get_alloc_lt, get_set_eq, get_set_lt, Nat.add_left_cancel_iff, Nat.add_eq_left, Nat.left_eq_add, Nat.lt_add_right_iff_pos, Nat.add_lt_add_iff_left, Nat.add_eq_zero_iff, Nat.zero_lt_succ, Nat.lt_add_one, List.length_cons, List.length_nil, Nat.le_refl, and_self, i64_id]
  refine WC_round ?_
  simp only [go_sem, ↓reduceIte, Nat.reduceAdd, Nat.reduceMul, Nat.reduceSub, Nat.reduceEqDiff, Nat.reduceLT, Nat.reduceLeDiff, Int.reduceEq, Int.reduceLT, Int.reduceLE, Int.reduceAdd, Int.reduceSub, Int.reduceNeg, Int.reduceToNat, c_law16_LeadBallots_l1, New_ok E.free (show (0:Int) ≤ 2 by omega) (show (2:Int) < 3 by omega), cellAt, cellsAt, aput?, get_alloc_eq, get_alloc_lt, get_set_eq, get_set_lt, Nat.add_left_cancel_iff, Nat.add_eq_left, Nat.left_eq_add, Nat.lt_add_right_iff_pos, Nat.add_lt_add_iff_left, Nat.add_eq_zero_iff, Nat.zero_lt_succ, Nat.lt_add_one, List.length_cons, List.length_nil, Nat.le_refl, and_self, i64_id]
  refine WC_round ?_
  simp only [go_sem, ↓reduceIte, Nat.reduceAdd, Nat.reduceMul, Nat.reduceSub, Nat.reduceEqDiff, Nat.reduceLT, Nat.reduceLeDiff, Int.reduceEq, Int.reduceLT, Int.reduceLE, Int.reduceAdd, Int.reduceSub, Int.reduceNeg, Int.reduceToNat, c_law16_LeadBallots_l1, cellAt, cellsAt, aput?, get_alloc_eq, get_alloc_lt, get_set_eq, get_set_lt, Nat.add_left_cancel_iff, Nat.add_eq_left, Nat.left_eq_add, Nat.lt_add_right_iff_pos, Nat.add_lt_add_iff_left, Nat.add_eq_zero_iff, Nat.zero_lt_succ, Nat.lt_add_one, List.length_cons, List.length_nil, Nat.le_refl, and_self, i64_id]
  refine WC_loop (balI h v rows) balM ?init ?step
  case init =>
    refine ⟨0, 0, 0, 0, ?_, ?_, ?_, ?_, by omega, by omega, ?_, ?_, ?_, ?_, ?_, ?_, by omega, by omega, by omega, by omega, by omega, by omega⟩
    · simp only [go_sem, ↓reduceIte, Nat.reduceAdd, Nat.reduceMul, Nat.reduceSub, Nat.reduceEqDiff, Nat.reduceLT, Nat.reduceLeDiff, Int.reduceEq, Int.reduceLT, Int.reduceLE, Int.reduceAdd, Int.reduceSub, Int.reduceNeg, Int.reduceToNat]
    · simp only [go_sem, ↓reduceIte, Nat.reduceAdd, Nat.reduceMul, Nat.reduceSub, Nat.reduceEqDiff, Nat.reduceLT, Nat.reduceLeDiff, Int.reduceEq, Int.reduceLT, Int.reduceLE, Int.reduceAdd, Int.reduceSub, Int.reduceNeg, Int.reduceToNat]
    · simp only [go_sem, ↓reduceIte, Nat.reduceAdd, Nat.reduceMul, Nat.reduceSub, Nat.reduceEqDiff, Nat.reduceLT, Nat.reduceLeDiff, Int.reduceEq, Int.reduceLT, Int.reduceLE, Int.reduceAdd, Int.reduceSub, Int.reduceNeg, Int.reduceToNat]
    · simp only [go_sem, ↓reduceIte, Nat.reduceAdd, Nat.reduceMul, Nat.reduceSub, Nat.reduceEqDiff, Nat.reduceLT, Nat.reduceLeDiff, Int.reduceEq, Int.reduceLT, Int.reduceLE, Int.reduceAdd, Int.reduceSub, Int.reduceNeg, Int.reduceToNat]
    · repeat first
        | exact Keep.refl _ _
        | refine Keep.alloc ?_ _
        | refine Keep.set ?_ _ (.inr (by omega))
    · simp only [go_sem, ↓reduceIte, Nat.reduceAdd, Nat.reduceMul, Nat.reduceSub, Nat.reduceEqDiff, Nat.reduceLT, Nat.reduceLeDiff, Int.reduceEq, Int.reduceLT, Int.reduceLE, Int.reduceAdd, Int.reduceSub, Int.reduceNeg, Int.reduceToNat, cellAt, cellsAt, aput?, get_alloc_eq, get_alloc_lt, get_set_eq, get_set_lt, Nat.add_left_cancel_iff, Nat.add_eq_left, Nat.left_eq_add, Nat.lt_add_right_iff_pos, Nat.add_lt_add_iff_left, Nat.add_eq_zero_iff, Nat.zero_lt_succ, Nat.lt_add_one, List.length_cons, List.length_nil, Nat.le_refl, and_self]
    · simp only [go_sem, ↓reduceIte, Nat.reduceAdd, Nat.reduceMul, Nat.reduceSub, Nat.reduceEqDiff, Nat.reduceLT, Nat.reduceLeDiff, Int.reduceEq, Int.reduceLT, Int.reduceLE, Int.reduceAdd, Int.reduceSub, Int.reduceNeg, Int.reduceToNat, cellAt, cellsAt, aput?, get_alloc_eq, get_alloc_lt, get_set_eq, get_set_lt, Nat.add_left_cancel_iff, Nat.add_eq_left, Nat.left_eq_add, Nat.lt_add_right_iff_pos, Nat.add_lt_add_iff_left, Nat.add_eq_zero_iff, Nat.zero_lt_succ, Nat.lt_add_one, List.length_cons, List.length_nil, Nat.le_refl, and_self]
    · refine ⟨.int .i64 0, .int .i64 0, .int .u64 0, .map none, .ptr none, .int .u64 0, ?_⟩
      simp only [go_sem, ↓reduceIte, Nat.reduceAdd, Nat.reduceMul, Nat.reduceSub, Nat.reduceEqDiff, Nat.reduceLT, Nat.reduceLeDiff, Int.reduceEq, Int.reduceLT, Int.reduceLE, Int.reduceAdd, Int.reduceSub, Int.reduceNeg, Int.reduceToNat, cellAt, cellsAt, aput?, get_alloc_eq, get_alloc_lt, get_set_eq, get_set_lt, Nat.add_left_cancel_iff, Nat.add_eq_left, Nat.left_eq_add, Nat.lt_add_right_iff_pos, Nat.add_lt_add_iff_left, Nat.add_eq_zero_iff, Nat.zero_lt_succ, Nat.lt_add_one, List.length_cons, List.length_nil, Nat.le_refl, and_self]
    · refine ⟨.int .i64 0, .int .i64 0, .int .u64 0, .map none, .ptr none, .int .u64 0, ?_⟩
      simp only [go_sem, ↓reduceIte, Nat.reduceAdd, Nat.reduceMul, Nat.reduceSub, Nat.reduceEqDiff, Nat.reduceLT, Nat.reduceLeDiff, Int.reduceEq, Int.reduceLT, Int.reduceLE, Int.reduceAdd, Int.reduceSub, Int.reduceNeg, Int.reduceToNat, cellAt, cellsAt, aput?, get_alloc_eq, get_alloc_lt, get_set_eq, get_set_lt, Nat.add_left_cancel_iff, Nat.add_eq_left, Nat.left_eq_add, Nat.lt_add_right_iff_pos, Nat.add_lt_add_iff_left, Nat.add_eq_zero_iff, Nat.zero_lt_succ, Nat.lt_add_one, List.length_cons, List.length_nil, Nat.le_refl, and_self]
    · refine ⟨.int .i64 0, .int .i64 0, .int .u64 0, .map none, .ptr none, .int .u64 0, ?_⟩
      simp only [go_sem, ↓reduceIte, Nat.reduceAdd, Nat.reduceMul, Nat.reduceSub, Nat.reduceEqDiff, Nat.reduceLT, Nat.reduceLeDiff, Int.reduceEq, Int.reduceLT, Int.reduceLE, Int.reduceAdd, Int.reduceSub, Int.reduceNeg, Int.reduceToNat, cellAt, cellsAt, aput?, get_alloc_eq, get_alloc_lt, get_set_eq, get_set_lt, Nat.add_left_cancel_iff, Nat.add_eq_left, Nat.left_eq_add, Nat.lt_add_right_iff_pos, Nat.add_lt_add_iff_left, Nat.add_eq_zero_iff, Nat.zero_lt_succ, Nat.lt_add_one, List.length_cons, List.length_nil, Nat.le_refl, and_self]
  case step =>
    rintro f h1 ⟨i, b0, b1, b2, f0, f3, f4, f8, hi60, hil, hk, hA, hB, hL0, hL1, hL2, p0, p1, p2, q0, q1, q2⟩
    have hlen := hs.lenAt h1
    have hT1 : HasTab h1 := hk.get hT (List.not_mem_nil)
    by_cases hlt : i < rows.length
    case neg =>
      have e1 : ¬ ((i : Int) < (rows.length : Int)) := by omega
      simp only [go_sem, ↓reduceIte, Nat.reduceAdd, Nat.reduceMul, Nat.reduceSub, Nat.reduceEqDiff, Nat.reduceLT, Nat.reduceLeDiff, Int.reduceEq, Int.reduceLT, Int.reduceLE, Int.reduceAdd, Int.reduceSub, Int.reduceNeg, Int.reduceToNat, c_law16_LeadBallots_l0, f0, f8, hlen, e1, fun K => E.works h1 K hT1]
    by_cases h60 : i < 60
    case neg =>
      have e1 : ((i : Int) < (rows.length : Int)) := by omega
      have e2 : ¬ ((i : Int) < 60) := by omega
      simp only [go_sem, ↓reduceIte, Nat.reduceAdd, Nat.reduceMul, Nat.reduceSub, Nat.reduceEqDiff, Nat.reduceLT, Nat.reduceLeDiff, Int.reduceEq, Int.reduceLT, Int.reduceLE, Int.reduceAdd, Int.reduceSub, Int.reduceNeg, Int.reduceToNat, c_law16_LeadBallots_l0, f0, f8, hlen, e1, e2, fun K => E.works h1 K hT1]
    have e1 : ((i : Int) < (rows.length : Int)) := by omega
    have e2 : ((i : Int) < 60) := by omega
    have e3 : (0 : Int) ≤ (i : Int) := by omega
    have hri : rows[i]? = some rows[i] := List.getElem?_eq_getElem hlt
    have hrm : rows[i] ∈ rows := List.getElem_mem hlt
    generalize rows[i] = r at hri hrm
    obtain ⟨hr1, hr2, hr3, hr4⟩ := hr r hrm
    obtain ⟨g1, g2⟩ := flat2 rows i r hri
    have hs' := hs
    obtain ⟨a, cap, z, op, rfl, _⟩ := hs'
    obtain ⟨j, off, c, ro, e, rfl, rfl, hj, hgj, hle, hat⟩ := hs.at (by omega)
    have hgj1 := hk.get hgj (List.not_mem_nil)
    have k1 : c[off + i * 2]? = some (.int .i64 r.1) := by rw [hat _ (by omega)]; exact g1
    have k2 : c[off + (i * 2 + 1)]? = some (.int .i64 r.2) := by rw [hat _ (by omega)]; exact g2
    have hB3 := fun (x : Int) (K : AV → AHeap → Prop) => Bring_eq (G := G) (h := h1) (E.free.no n_ref00_Bring rfl) (x := x) (n := 3) (by omega) (by omega) K
    have hB40 := fun (x : Int) (K : AV → AHeap → Prop) => Bring_eq (G := G) (h := h1) (E.free.no n_ref00_Bring rfl) (x := x) (n := 1099511627776) (by omega) (by omega) K
    have hwho : r.1 % 3 = 0 ∨ r.1 % 3 = 1 ∨ r.1 % 3 = 2 := by omega
    simp only [go_sem, ↓reduceIte, Nat.reduceAdd, Nat.reduceMul, Nat.reduceSub, Nat.reduceEqDiff, Nat.reduceLT, Nat.reduceLeDiff, Int.reduceEq, Int.reduceLT, Int.reduceLE, Int.reduceAdd, Int.reduceSub, Int.reduceNeg, Int.reduceToNat, c_law16_LeadBallots_l0, f0, f3, f4, f8, hlen, e1, e2, e3, cellAt, cellsAt, aput?, get_alloc_eq, get_alloc_lt, get_set_eq, get_set_lt, Nat.add_left_cancel_iff, Nat.add_eq_left, Nat.left_eq_add, Nat.lt_add_right_iff_pos, Nat.add_lt_add_iff_left, Nat.add_eq_zero_iff, Nat.zero_lt_succ, Nat.lt_add_one, List.length_cons, List.length_nil, Nat.le_refl, and_self, hgj1, k1, k2, hB3, hB40, Int.toNat_natCast, hA, hB]
    by_cases hp : r.2.tmod 2 = 0
    · rcases hwho with hw | hw | hw
      · obtain ⟨c2, c3, c4, c5, c6, c7, hL⟩ := hL0
        have w1 : IntKind.i64.wrap (max (max b0 b1) b2 - r.2 % 3) = max (max b0 b1) b2 - r.2 % 3 := i64_id (by omega) (by omega)
        obtain ⟨ab, hab⟩ : ∃ ab, ab = max (max (max b0 b1) b2 - r.2 % 3) 0 := ⟨_, rfl⟩
        have hab1 : 0 ≤ ab ∧ ab ≤ 2199023255552 + 3 * (i : Int) := by omega
        have pw := hp
        obtain ⟨nb, hnb⟩ : ∃ nb, nb = nextB 0 ab b0 := ⟨_, rfl⟩
        have hn := nextB_gt 0 ab b0 (by omega) (by omega)
        rw [← hnb] at hn
        obtain ⟨n1, n2, n3, n4⟩ := hn
        have n5 : ¬ nb ≤ ab := by omega
        have n6 : ¬ nb ≤ b0 := by omega
        have n7 : nb.tmod 3 = 0 := by rw [Int.tmod_eq_emod_of_nonneg (by omega)]; exact n4
        have n8 : IntKind.i64.wrap (max ab b0 + 3) = max ab b0 + 3 := i64_id (by omega) (by omega)
        have n9 : ¬ max ab b0 + 3 < nb := by omega
        have n10 : IntKind.i64.wrap ((i : Int) + 1) = (i : Int) + 1 := i64_id (by omega) (by omega)
        have hS := fun K => Start_ok (G := G) E.free hL (a := ab) (f := 1) (by omega) (by omega) (by omega) (by omega) (by omega) (by omega) (by omega) (by omega) K
        rw [← hnb] at hS
        have hlt2 := AHeap.get_lt hL
        have hlt3 := AHeap.get_lt hB
        have hltB : h.n + 1 < h1.n + 1 := by omega
        have hlt20 : h.n + 2 < h1.n + 1 := by omega
        have hg2 : ((h1.alloc (.map [])).set (h.n + 2) (.cells [.int .i64 0, .int .i64 nb, .int .i64 1, .int .i64 1, .int .u64 0, .map (some h1.n), .ptr none, .int .u64 0, .bool true] false 1)).get (h.n + 2) = some (.cells [.int .i64 0, .int .i64 nb, .int .i64 1, .int .i64 1, .int .u64 0, .map (some h1.n), .ptr none, .int .u64 0, .bool true] false 1) := get_set_self' (by rw [AHeap.n_alloc]; omega)
        have hBal := fun K => Ballot_at (G := G) E.free hg2 K
        have hPh := fun K => Phase_at (G := G) E.free hg2 K
        simp only [go_sem, ↓reduceIte, Nat.reduceAdd, Nat.reduceMul, Nat.reduceSub, Nat.reduceEqDiff, Nat.reduceLT, Nat.reduceLeDiff, Int.reduceEq, Int.reduceLT, Int.reduceLE, Int.reduceAdd, Int.reduceSub, Int.reduceNeg, Int.reduceToNat, hw, pw, hp, w1, ← hab, hA, hB, get_alloc_of hA, get_alloc_of hB, f3, f4, f8, cellAt, cellsAt, aput?, get_alloc_eq, get_alloc_lt, get_set_eq, get_set_lt, Nat.add_left_cancel_iff, Nat.add_eq_left, Nat.left_eq_add, Nat.lt_add_right_iff_pos, Nat.add_lt_add_iff_left, Nat.add_eq_zero_iff, Nat.zero_lt_succ, Nat.lt_add_one, List.length_cons, List.length_nil, Nat.le_refl, and_self, hS, n5, n6, n7, n8, n9, hBal, hPh, n10]
        refine ⟨⟨i + 1, nb, b1, b2, ?_, ?_, ?_, ?_, by omega, by omega, ((hk.alloc _).set _ (.inr (by omega))).set _ (.inr (by omega)), ?_, ?_, ?_, ?_, ?_, by omega, by omega, by omega, by omega, by omega, by omega⟩, ?_⟩
        · simp only [go_sem, ↓reduceIte, Nat.reduceAdd, Nat.reduceMul, Nat.reduceSub, Nat.reduceEqDiff, Nat.reduceLT, Nat.reduceLeDiff, Int.reduceEq, Int.reduceLT, Int.reduceLE, Int.reduceAdd, Int.reduceSub, Int.reduceNeg, Int.reduceToNat, f0]
        · simp only [go_sem, ↓reduceIte, Nat.reduceAdd, Nat.reduceMul, Nat.reduceSub, Nat.reduceEqDiff, Nat.reduceLT, Nat.reduceLeDiff, Int.reduceEq, Int.reduceLT, Int.reduceLE, Int.reduceAdd, Int.reduceSub, Int.reduceNeg, Int.reduceToNat, f3]
        · simp only [go_sem, ↓reduceIte, Nat.reduceAdd, Nat.reduceMul, Nat.reduceSub, Nat.reduceEqDiff, Nat.reduceLT, Nat.reduceLeDiff, Int.reduceEq, Int.reduceLT, Int.reduceLE, Int.reduceAdd, Int.reduceSub, Int.reduceNeg, Int.reduceToNat, f4]
        · simp only [go_sem, ↓reduceIte, Nat.reduceAdd, Nat.reduceMul, Nat.reduceSub, Nat.reduceEqDiff, Nat.reduceLT, Nat.reduceLeDiff, Int.reduceEq, Int.reduceLT, Int.reduceLE, Int.reduceAdd, Int.reduceSub, Int.reduceNeg, Int.reduceToNat]
          rfl
        · simp only [go_sem, ↓reduceIte, Nat.reduceAdd, Nat.reduceMul, Nat.reduceSub, Nat.reduceEqDiff, Nat.reduceLT, Nat.reduceLeDiff, Int.reduceEq, Int.reduceLT, Int.reduceLE, Int.reduceAdd, Int.reduceSub, Int.reduceNeg, Int.reduceToNat, cellAt, cellsAt, aput?, get_alloc_eq, get_alloc_lt, get_set_eq, get_set_lt, Nat.add_left_cancel_iff, Nat.add_eq_left, Nat.left_eq_add, Nat.lt_add_right_iff_pos, Nat.add_lt_add_iff_left, Nat.add_eq_zero_iff, Nat.zero_lt_succ, Nat.lt_add_one, List.length_cons, List.length_nil, Nat.le_refl, and_self, get_alloc_of hA]
        · simp only [go_sem, ↓reduceIte, Nat.reduceAdd, Nat.reduceMul, Nat.reduceSub, Nat.reduceEqDiff, Nat.reduceLT, Nat.reduceLeDiff, Int.reduceEq, Int.reduceLT, Int.reduceLE, Int.reduceAdd, Int.reduceSub, Int.reduceNeg, Int.reduceToNat, cellAt, cellsAt, aput?, get_alloc_eq, get_alloc_lt, get_set_eq, get_set_lt, Nat.add_left_cancel_iff, Nat.add_eq_left, Nat.left_eq_add, Nat.lt_add_right_iff_pos, Nat.add_lt_add_iff_left, Nat.add_eq_zero_iff, Nat.zero_lt_succ, Nat.lt_add_one, List.length_cons, List.length_nil, Nat.le_refl, and_self, get_alloc_of hB, hltB]
        · exact ⟨.int .i64 1, .int .i64 1, .int .u64 0, .map (some h1.n), .ptr none, .int .u64 0, by simp only [go_sem, ↓reduceIte, Nat.reduceAdd, Nat.reduceMul, Nat.reduceSub, Nat.reduceEqDiff, Nat.reduceLT, Nat.reduceLeDiff, Int.reduceEq, Int.reduceLT, Int.reduceLE, Int.reduceAdd, Int.reduceSub, Int.reduceNeg, Int.reduceToNat, cellAt, cellsAt, aput?, get_alloc_eq, get_alloc_lt, get_set_eq, get_set_lt, Nat.add_left_cancel_iff, Nat.add_eq_left, Nat.left_eq_add, Nat.lt_add_right_iff_pos, Nat.add_lt_add_iff_left, Nat.add_eq_zero_iff, Nat.zero_lt_succ, Nat.lt_add_one, List.length_cons, List.length_nil, Nat.le_refl, and_self, hlt20]⟩
        · obtain ⟨d2, d3, d4, d5, d6, d7, hd⟩ := hL1
          exact ⟨d2, d3, d4, d5, d6, d7, by simp only [go_sem, ↓reduceIte, Nat.reduceAdd, Nat.reduceMul, Nat.reduceSub, Nat.reduceEqDiff, Nat.reduceLT, Nat.reduceLeDiff, Int.reduceEq, Int.reduceLT, Int.reduceLE, Int.reduceAdd, Int.reduceSub, Int.reduceNeg, Int.reduceToNat, cellAt, cellsAt, aput?, get_alloc_eq, get_alloc_lt, get_set_eq, get_set_lt, Nat.add_left_cancel_iff, Nat.add_eq_left, Nat.left_eq_add, Nat.lt_add_right_iff_pos, Nat.add_lt_add_iff_left, Nat.add_eq_zero_iff, Nat.zero_lt_succ, Nat.lt_add_one, List.length_cons, List.length_nil, Nat.le_refl, and_self, get_alloc_of hd]⟩
        · obtain ⟨d2, d3, d4, d5, d6, d7, hd⟩ := hL2
          exact ⟨d2, d3, d4, d5, d6, d7, by simp only [go_sem, ↓reduceIte, Nat.reduceAdd, Nat.reduceMul, Nat.reduceSub, Nat.reduceEqDiff, Nat.reduceLT, Nat.reduceLeDiff, Int.reduceEq, Int.reduceLT, Int.reduceLE, Int.reduceAdd, Int.reduceSub, Int.reduceNeg, Int.reduceToNat, cellAt, cellsAt, aput?, get_alloc_eq, get_alloc_lt, get_set_eq, get_set_lt, Nat.add_left_cancel_iff, Nat.add_eq_left, Nat.left_eq_add, Nat.lt_add_right_iff_pos, Nat.add_lt_add_iff_left, Nat.add_eq_zero_iff, Nat.zero_lt_succ, Nat.lt_add_one, List.length_cons, List.length_nil, Nat.le_refl, and_self, get_alloc_of hd]⟩
        · simp only [balM, f8]
          simp only [go_sem, ↓reduceIte, Nat.reduceAdd, Nat.reduceMul, Nat.reduceSub, Nat.reduceEqDiff, Nat.reduceLT, Nat.reduceLeDiff, Int.reduceEq, Int.reduceLT, Int.reduceLE, Int.reduceAdd, Int.reduceSub, Int.reduceNeg, Int.reduceToNat]
          omega
      · obtain ⟨c2, c3, c4, c5, c6, c7, hL⟩ := hL1
        have w1 : IntKind.i64.wrap (max (max b0 b1) b2 - r.2 % 3) = max (max b0 b1) b2 - r.2 % 3 := i64_id (by omega) (by omega)
        obtain ⟨ab, hab⟩ : ∃ ab, ab = max (max (max b0 b1) b2 - r.2 % 3) 0 := ⟨_, rfl⟩
        have hab1 : 0 ≤ ab ∧ ab ≤ 2199023255552 + 3 * (i : Int) := by omega
        have pw := hp
        obtain ⟨nb, hnb⟩ : ∃ nb, nb = nextB 1 ab b1 := ⟨_, rfl⟩
        have hn := nextB_gt 1 ab b1 (by omega) (by omega)
        rw [← hnb] at hn
        obtain ⟨n1, n2, n3, n4⟩ := hn
        have n5 : ¬ nb ≤ ab := by omega
        have n6 : ¬ nb ≤ b1 := by omega
        have n7 : nb.tmod 3 = 1 := by rw [Int.tmod_eq_emod_of_nonneg (by omega)]; exact n4
        have n8 : IntKind.i64.wrap (max ab b1 + 3) = max ab b1 + 3 := i64_id (by omega) (by omega)
        have n9 : ¬ max ab b1 + 3 < nb := by omega
        have n10 : IntKind.i64.wrap ((i : Int) + 1) = (i : Int) + 1 := i64_id (by omega) (by omega)
        have hS := fun K => Start_ok (G := G) E.free hL (a := ab) (f := 1) (by omega) (by omega) (by omega) (by omega) (by omega) (by omega) (by omega) (by omega) K
        rw [← hnb] at hS
        have hlt2 := AHeap.get_lt hL
        have hlt3 := AHeap.get_lt hB
        have hltB : h.n + 1 < h1.n + 1 := by omega
        have hlt20 : h.n + 3 < h1.n + 1 := by omega
        have hg2 : ((h1.alloc (.map [])).set (h.n + 3) (.cells [.int .i64 1, .int .i64 nb, .int .i64 1, .int .i64 1, .int .u64 0, .map (some h1.n), .ptr none, .int .u64 0, .bool true] false 1)).get (h.n + 3) = some (.cells [.int .i64 1, .int .i64 nb, .int .i64 1, .int .i64 1, .int .u64 0, .map (some h1.n), .ptr none, .int .u64 0, .bool true] false 1) := get_set_self' (by rw [AHeap.n_alloc]; omega)
        have hBal := fun K => Ballot_at (G := G) E.free hg2 K
        have hPh := fun K => Phase_at (G := G) E.free hg2 K
        simp only [go_sem, ↓reduceIte, Nat.reduceAdd, Nat.reduceMul, Nat.reduceSub, Nat.reduceEqDiff, Nat.reduceLT, Nat.reduceLeDiff, Int.reduceEq, Int.reduceLT, Int.reduceLE, Int.reduceAdd, Int.reduceSub, Int.reduceNeg, Int.reduceToNat, hw, pw, hp, w1, ← hab, hA, hB, get_alloc_of hA, get_alloc_of hB, f3, f4, f8, cellAt, cellsAt, aput?, get_alloc_eq, get_alloc_lt, get_set_eq, get_set_lt, Nat.add_left_cancel_iff, Nat.add_eq_left, Nat.left_eq_add, Nat.lt_add_right_iff_pos, Nat.add_lt_add_iff_left, Nat.add_eq_zero_iff, Nat.zero_lt_succ, Nat.lt_add_one, List.length_cons, List.length_nil, Nat.le_refl, and_self, hS, n5, n6, n7, n8, n9, hBal, hPh, n10]
        refine ⟨⟨i + 1, b0, nb, b2, ?_, ?_, ?_, ?_, by omega, by omega, ((hk.alloc _).set _ (.inr (by omega))).set _ (.inr (by omega)), ?_, ?_, ?_, ?_, ?_, by omega, by omega, by omega, by omega, by omega, by omega⟩, ?_⟩
        · simp only [go_sem, ↓reduceIte, Nat.reduceAdd, Nat.reduceMul, Nat.reduceSub, Nat.reduceEqDiff, Nat.reduceLT, Nat.reduceLeDiff, Int.reduceEq, Int.reduceLT, Int.reduceLE, Int.reduceAdd, Int.reduceSub, Int.reduceNeg, Int.reduceToNat, f0]
        · simp only [go_sem, ↓reduceIte, Nat.reduceAdd, Nat.reduceMul, Nat.reduceSub, Nat.reduceEqDiff, Nat.reduceLT, Nat.reduceLeDiff, Int.reduceEq, Int.reduceLT, Int.reduceLE, Int.reduceAdd, Int.reduceSub, Int.reduceNeg, Int.reduceToNat, f3]
        · simp only [go_sem, ↓reduceIte, Nat.reduceAdd, Nat.reduceMul, Nat.reduceSub, Nat.reduceEqDiff, Nat.reduceLT, Nat.reduceLeDiff, Int.reduceEq, Int.reduceLT, Int.reduceLE, Int.reduceAdd, Int.reduceSub, Int.reduceNeg, Int.reduceToNat, f4]
        · simp only [go_sem, ↓reduceIte, Nat.reduceAdd, Nat.reduceMul, Nat.reduceSub, Nat.reduceEqDiff, Nat.reduceLT, Nat.reduceLeDiff, Int.reduceEq, Int.reduceLT, Int.reduceLE, Int.reduceAdd, Int.reduceSub, Int.reduceNeg, Int.reduceToNat]
          rfl
        · simp only [go_sem, ↓reduceIte, Nat.reduceAdd, Nat.reduceMul, Nat.reduceSub, Nat.reduceEqDiff, Nat.reduceLT, Nat.reduceLeDiff, Int.reduceEq, Int.reduceLT, Int.reduceLE, Int.reduceAdd, Int.reduceSub, Int.reduceNeg, Int.reduceToNat, cellAt, cellsAt, aput?, get_alloc_eq, get_alloc_lt, get_set_eq, get_set_lt, Nat.add_left_cancel_iff, Nat.add_eq_left, Nat.left_eq_add, Nat.lt_add_right_iff_pos, Nat.add_lt_add_iff_left, Nat.add_eq_zero_iff, Nat.zero_lt_succ, Nat.lt_add_one, List.length_cons, List.length_nil, Nat.le_refl, and_self, get_alloc_of hA]
        · simp only [go_sem, ↓reduceIte, Nat.reduceAdd, Nat.reduceMul, Nat.reduceSub, Nat.reduceEqDiff, Nat.reduceLT, Nat.reduceLeDiff, Int.reduceEq, Int.reduceLT, Int.reduceLE, Int.reduceAdd, Int.reduceSub, Int.reduceNeg, Int.reduceToNat, cellAt, cellsAt, aput?, get_alloc_eq, get_alloc_lt, get_set_eq, get_set_lt, Nat.add_left_cancel_iff, Nat.add_eq_left, Nat.left_eq_add, Nat.lt_add_right_iff_pos, Nat.add_lt_add_iff_left, Nat.add_eq_zero_iff, Nat.zero_lt_succ, Nat.lt_add_one, List.length_cons, List.length_nil, Nat.le_refl, and_self, get_alloc_of hB, hltB]
        · obtain ⟨d2, d3, d4, d5, d6, d7, hd⟩ := hL0
          exact ⟨d2, d3, d4, d5, d6, d7, by simp only [go_sem, ↓reduceIte, Nat.reduceAdd, Nat.reduceMul, Nat.reduceSub, Nat.reduceEqDiff, Nat.reduceLT, Nat.reduceLeDiff, Int.reduceEq, Int.reduceLT, Int.reduceLE, Int.reduceAdd, Int.reduceSub, Int.reduceNeg, Int.reduceToNat, cellAt, cellsAt, aput?, get_alloc_eq, get_alloc_lt, get_set_eq, get_set_lt, Nat.add_left_cancel_iff, Nat.add_eq_left, Nat.left_eq_add, Nat.lt_add_right_iff_pos, Nat.add_lt_add_iff_left, Nat.add_eq_zero_iff, Nat.zero_lt_succ, Nat.lt_add_one, List.length_cons, List.length_nil, Nat.le_refl, and_self, get_alloc_of hd]⟩
        · exact ⟨.int .i64 1, .int .i64 1, .int .u64 0, .map (some h1.n), .ptr none, .int .u64 0, by simp only [go_sem, ↓reduceIte, Nat.reduceAdd, Nat.reduceMul, Nat.reduceSub, Nat.reduceEqDiff, Nat.reduceLT, Nat.reduceLeDiff, Int.reduceEq, Int.reduceLT, Int.reduceLE, Int.reduceAdd, Int.reduceSub, Int.reduceNeg, Int.reduceToNat, cellAt, cellsAt, aput?, get_alloc_eq, get_alloc_lt, get_set_eq, get_set_lt, Nat.add_left_cancel_iff, Nat.add_eq_left, Nat.left_eq_add, Nat.lt_add_right_iff_pos, Nat.add_lt_add_iff_left, Nat.add_eq_zero_iff, Nat.zero_lt_succ, Nat.lt_add_one, List.length_cons, List.length_nil, Nat.le_refl, and_self, hlt20]⟩
        · obtain ⟨d2, d3, d4, d5, d6, d7, hd⟩ := hL2
          exact ⟨d2, d3, d4, d5, d6, d7, by simp only [go_sem, ↓reduceIte, Nat.reduceAdd, Nat.reduceMul, Nat.reduceSub, Nat.reduceEqDiff, Nat.reduceLT, Nat.reduceLeDiff, Int.reduceEq, Int.reduceLT, Int.reduceLE, Int.reduceAdd, Int.reduceSub, Int.reduceNeg, Int.reduceToNat, cellAt, cellsAt, aput?, get_alloc_eq, get_alloc_lt, get_set_eq, get_set_lt, Nat.add_left_cancel_iff, Nat.add_eq_left, Nat.left_eq_add, Nat.lt_add_right_iff_pos, Nat.add_lt_add_iff_left, Nat.add_eq_zero_iff, Nat.zero_lt_succ, Nat.lt_add_one, List.length_cons, List.length_nil, Nat.le_refl, and_self, get_alloc_of hd]⟩
        · simp only [balM, f8]
          simp only [go_sem, ↓reduceIte, Nat.reduceAdd, Nat.reduceMul, Nat.reduceSub, Nat.reduceEqDiff, Nat.reduceLT, Nat.reduceLeDiff, Int.reduceEq, Int.reduceLT, Int.reduceLE, Int.reduceAdd, Int.reduceSub, Int.reduceNeg, Int.reduceToNat]
          omega
      · obtain ⟨c2, c3, c4, c5, c6, c7, hL⟩ := hL2
        have w1 : IntKind.i64.wrap (max (max b0 b1) b2 - r.2 % 3) = max (max b0 b1) b2 - r.2 % 3 := i64_id (by omega) (by omega)
        obtain ⟨ab, hab⟩ : ∃ ab, ab = max (max (max b0 b1) b2 - r.2 % 3) 0 := ⟨_, rfl⟩
        have hab1 : 0 ≤ ab ∧ ab ≤ 2199023255552 + 3 * (i : Int) := by omega
        have pw := hp
        obtain ⟨nb, hnb⟩ : ∃ nb, nb = nextB 2 ab b2 := ⟨_, rfl⟩
        have hn := nextB_gt 2 ab b2 (by omega) (by omega)
        rw [← hnb] at hn
        obtain ⟨n1, n2, n3, n4⟩ := hn
        have n5 : ¬ nb ≤ ab := by omega
        have n6 : ¬ nb ≤ b2 := by omega
        have n7 : nb.tmod 3 = 2 := by rw [Int.tmod_eq_emod_of_nonneg (by omega)]; exact n4
        have n8 : IntKind.i64.wrap (max ab b2 + 3) = max ab b2 + 3 := i64_id (by omega) (by omega)
        have n9 : ¬ max ab b2 + 3 < nb := by omega
        have n10 : IntKind.i64.wrap ((i : Int) + 1) = (i : Int) + 1 := i64_id (by omega) (by omega)
        have hS := fun K => Start_ok (G := G) E.free hL (a := ab) (f := 1) (by omega) (by omega) (by omega) (by omega) (by omega) (by omega) (by omega) (by omega) K
        rw [← hnb] at hS
        have hlt2 := AHeap.get_lt hL
        have hlt3 := AHeap.get_lt hB
        have hltB : h.n + 1 < h1.n + 1 := by omega
        have hlt20 : h.n + 4 < h1.n + 1 := by omega
        have hg2 : ((h1.alloc (.map [])).set (h.n + 4) (.cells [.int .i64 2, .int .i64 nb, .int .i64 1, .int .i64 1, .int .u64 0, .map (some h1.n), .ptr none, .int .u64 0, .bool true] false 1)).get (h.n + 4) = some (.cells [.int .i64 2, .int .i64 nb, .int .i64 1, .int .i64 1, .int .u64 0, .map (some h1.n), .ptr none, .int .u64 0, .bool true] false 1) := get_set_self' (by rw [AHeap.n_alloc]; omega)
        have hBal := fun K => Ballot_at (G := G) E.free hg2 K
        have hPh := fun K => Phase_at (G := G) E.free hg2 K
        simp only [go_sem, ↓reduceIte, Nat.reduceAdd, Nat.reduceMul, Nat.reduceSub, Nat.reduceEqDiff, Nat.reduceLT, Nat.reduceLeDiff, Int.reduceEq, Int.reduceLT, Int.reduceLE, Int.reduceAdd, Int.reduceSub, Int.reduceNeg, Int.reduceToNat, hw, pw, hp, w1, ← hab, hA, hB, get_alloc_of hA, get_alloc_of hB, f3, f4, f8, cellAt, cellsAt, aput?, get_alloc_eq, get_alloc_lt, get_set_eq, get_set_lt, Nat.add_left_cancel_iff, Nat.add_eq_left, Nat.left_eq_add, Nat.lt_add_right_iff_pos, Nat.add_lt_add_iff_left, Nat.add_eq_zero_iff, Nat.zero_lt_succ, Nat.lt_add_one, List.length_cons, List.length_nil, Nat.le_refl, and_self, hS, n5, n6, n7, n8, n9, hBal, hPh, n10]
        refine ⟨⟨i + 1, b0, b1, nb, ?_, ?_, ?_, ?_, by omega, by omega, ((hk.alloc _).set _ (.inr (by omega))).set _ (.inr (by omega)), ?_, ?_, ?_, ?_, ?_, by omega, by omega, by omega, by omega, by omega, by omega⟩, ?_⟩
        · simp only [go_sem, ↓reduceIte, Nat.reduceAdd, Nat.reduceMul, Nat.reduceSub, Nat.reduceEqDiff, Nat.reduceLT, Nat.reduceLeDiff, Int.reduceEq, Int.reduceLT, Int.reduceLE, Int.reduceAdd, Int.reduceSub, Int.reduceNeg, Int.reduceToNat, f0]
        · simp only [go_sem, ↓reduceIte, Nat.reduceAdd, Nat.reduceMul, Nat.reduceSub, Nat.reduceEqDiff, Nat.reduceLT, Nat.reduceLeDiff, Int.reduceEq, Int.reduceLT, Int.reduceLE, Int.reduceAdd, Int.reduceSub, Int.reduceNeg, Int.reduceToNat, f3]
        · simp only [go_sem, ↓reduceIte, Nat.reduceAdd, Nat.reduceMul, Nat.reduceSub, Nat.reduceEqDiff, Nat.reduceLT, Nat.reduceLeDiff, Int.reduceEq, Int.reduceLT, Int.reduceLE, Int.reduceAdd, Int.reduceSub, Int.reduceNeg, Int.reduceToNat, f4]
        · simp only [go_sem, ↓reduceIte, Nat.reduceAdd, Nat.reduceMul, Nat.reduceSub, Nat.reduceEqDiff, Nat.reduceLT, Nat.reduceLeDiff, Int.reduceEq, Int.reduceLT, Int.reduceLE, Int.reduceAdd, Int.reduceSub, Int.reduceNeg, Int.reduceToNat]
          rfl
        · simp only [go_sem, ↓reduceIte, Nat.reduceAdd, Nat.reduceMul, Nat.reduceSub, Nat.reduceEqDiff, Nat.reduceLT, Nat.reduceLeDiff, Int.reduceEq, Int.reduceLT, Int.reduceLE, Int.reduceAdd, Int.reduceSub, Int.reduceNeg, Int.reduceToNat, cellAt, cellsAt, aput?, get_alloc_eq, get_alloc_lt, get_set_eq, get_set_lt, Nat.add_left_cancel_iff, Nat.add_eq_left, Nat.left_eq_add, Nat.lt_add_right_iff_pos, Nat.add_lt_add_iff_left, Nat.add_eq_zero_iff, Nat.zero_lt_succ, Nat.lt_add_one, List.length_cons, List.length_nil, Nat.le_refl, and_self, get_alloc_of hA]
        · simp only [go_sem, ↓reduceIte, Nat.reduceAdd, Nat.reduceMul, Nat.reduceSub, Nat.reduceEqDiff, Nat.reduceLT, Nat.reduceLeDiff, Int.reduceEq, Int.reduceLT, Int.reduceLE, Int.reduceAdd, Int.reduceSub, Int.reduceNeg, Int.reduceToNat, cellAt, cellsAt, aput?, get_alloc_eq, get_alloc_lt, get_set_eq, get_set_lt, Nat.add_left_cancel_iff, Nat.add_eq_left, Nat.left_eq_add, Nat.lt_add_right_iff_pos, Nat.add_lt_add_iff_left, Nat.add_eq_zero_iff, Nat.zero_lt_succ, Nat.lt_add_one, List.length_cons, List.length_nil, Nat.le_refl, and_self, get_alloc_of hB, hltB]
        · obtain ⟨d2, d3, d4, d5, d6, d7, hd⟩ := hL0
          exact ⟨d2, d3, d4, d5, d6, d7, by simp only [go_sem, ↓reduceIte, Nat.reduceAdd, Nat.reduceMul, Nat.reduceSub, Nat.reduceEqDiff, Nat.reduceLT, Nat.reduceLeDiff, Int.reduceEq, Int.reduceLT, Int.reduceLE, Int.reduceAdd, Int.reduceSub, Int.reduceNeg, Int.reduceToNat, cellAt, cellsAt, aput?, get_alloc_eq, get_alloc_lt, get_set_eq, get_set_lt, Nat.add_left_cancel_iff, Nat.add_eq_left, Nat.left_eq_add, Nat.lt_add_right_iff_pos, Nat.add_lt_add_iff_left, Nat.add_eq_zero_iff, Nat.zero_lt_succ, Nat.lt_add_one, List.length_cons, List.length_nil, Nat.le_refl, and_self, get_alloc_of hd]⟩
        · obtain ⟨d2, d3, d4, d5, d6, d7, hd⟩ := hL1
          exact ⟨d2, d3, d4, d5, d6, d7, by simp only [go_sem, ↓reduceIte, Nat.reduceAdd, Nat.reduceMul, Nat.reduceSub, Nat.reduceEqDiff, Nat.reduceLT, Nat.reduceLeDiff, Int.reduceEq, Int.reduceLT, Int.reduceLE, Int.reduceAdd, Int.reduceSub, Int.reduceNeg, Int.reduceToNat, cellAt, cellsAt, aput?, get_alloc_eq, get_alloc_lt, get_set_eq, get_set_lt, Nat.add_left_cancel_iff, Nat.add_eq_left, Nat.left_eq_add, Nat.lt_add_right_iff_pos, Nat.add_lt_add_iff_left, Nat.add_eq_zero_iff, Nat.zero_lt_succ, Nat.lt_add_one, List.length_cons, List.length_nil, Nat.le_refl, and_self, get_alloc_of hd]⟩
        · exact ⟨.int .i64 1, .int .i64 1, .int .u64 0, .map (some h1.n), .ptr none, .int .u64 0, by simp only [go_sem, ↓reduceIte, Nat.reduceAdd, Nat.reduceMul, Nat.reduceSub, Nat.reduceEqDiff, Nat.reduceLT, Nat.reduceLeDiff, Int.reduceEq, Int.reduceLT, Int.reduceLE, Int.reduceAdd, Int.reduceSub, Int.reduceNeg, Int.reduceToNat, cellAt, cellsAt, aput?, get_alloc_eq, get_alloc_lt, get_set_eq, get_set_lt, Nat.add_left_cancel_iff, Nat.add_eq_left, Nat.left_eq_add, Nat.lt_add_right_iff_pos, Nat.add_lt_add_iff_left, Nat.add_eq_zero_iff, Nat.zero_lt_succ, Nat.lt_add_one, List.length_cons, List.length_nil, Nat.le_refl, and_self, hlt20]⟩
        · simp only [balM, f8]
          simp only [go_sem, ↓reduceIte, Nat.reduceAdd, Nat.reduceMul, Nat.reduceSub, Nat.reduceEqDiff, Nat.reduceLT, Nat.reduceLeDiff, Int.reduceEq, Int.reduceLT, Int.reduceLE, Int.reduceAdd, Int.reduceSub, Int.reduceNeg, Int.reduceToNat]
          omega
    · rcases hwho with hw | hw | hw
      · obtain ⟨c2, c3, c4, c5, c6, c7, hL⟩ := hL0
        have w1 : True := trivial
        obtain ⟨ab, hab⟩ : ∃ ab, ab = max (r.2 % 1099511627776) 0 := ⟨_, rfl⟩
        have hab1 : 0 ≤ ab ∧ ab ≤ 2199023255552 + 3 * (i : Int) := by omega
        have pw := hp
        obtain ⟨nb, hnb⟩ : ∃ nb, nb = nextB 0 ab b0 := ⟨_, rfl⟩
        have hn := nextB_gt 0 ab b0 (by omega) (by omega)
        rw [← hnb] at hn
        obtain ⟨n1, n2, n3, n4⟩ := hn
        have n5 : ¬ nb ≤ ab := by omega
        have n6 : ¬ nb ≤ b0 := by omega
        have n7 : nb.tmod 3 = 0 := by rw [Int.tmod_eq_emod_of_nonneg (by omega)]; exact n4
        have n8 : IntKind.i64.wrap (max ab b0 + 3) = max ab b0 + 3 := i64_id (by omega) (by omega)
        have n9 : ¬ max ab b0 + 3 < nb := by omega
        have n10 : IntKind.i64.wrap ((i : Int) + 1) = (i : Int) + 1 := i64_id (by omega) (by omega)
        have hS := fun K => Start_ok (G := G) E.free hL (a := ab) (f := 1) (by omega) (by omega) (by omega) (by omega) (by omega) (by omega) (by omega) (by omega) K
        rw [← hnb] at hS
        have hlt2 := AHeap.get_lt hL
        have hlt3 := AHeap.get_lt hB
        have hltB : h.n + 1 < h1.n + 1 := by omega
        have hlt20 : h.n + 2 < h1.n + 1 := by omega
        have hg2 : ((h1.alloc (.map [])).set (h.n + 2) (.cells [.int .i64 0, .int .i64 nb, .int .i64 1, .int .i64 1, .int .u64 0, .map (some h1.n), .ptr none, .int .u64 0, .bool true] false 1)).get (h.n + 2) = some (.cells [.int .i64 0, .int .i64 nb, .int .i64 1, .int .i64 1, .int .u64 0, .map (some h1.n), .ptr none, .int .u64 0, .bool true] false 1) := get_set_self' (by rw [AHeap.n_alloc]; omega)
        have hBal := fun K => Ballot_at (G := G) E.free hg2 K
        have hPh := fun K => Phase_at (G := G) E.free hg2 K
        simp only [go_sem, ↓reduceIte, Nat.reduceAdd, Nat.reduceMul, Nat.reduceSub, Nat.reduceEqDiff, Nat.reduceLT, Nat.reduceLeDiff, Int.reduceEq, Int.reduceLT, Int.reduceLE, Int.reduceAdd, Int.reduceSub, Int.reduceNeg, Int.reduceToNat, hw, pw, hp, w1, ← hab, hA, hB, get_alloc_of hA, get_alloc_of hB, f3, f4, f8, cellAt, cellsAt, aput?, get_alloc_eq, get_alloc_lt, get_set_eq, get_set_lt, Nat.add_left_cancel_iff, Nat.add_eq_left, Nat.left_eq_add, Nat.lt_add_right_iff_pos, Nat.add_lt_add_iff_left, Nat.add_eq_zero_iff, Nat.zero_lt_succ, Nat.lt_add_one, List.length_cons, List.length_nil, Nat.le_refl, and_self, hS, n5, n6, n7, n8, n9, hBal, hPh, n10]
        refine ⟨⟨i + 1, nb, b1, b2, ?_, ?_, ?_, ?_, by omega, by omega, ((hk.alloc _).set _ (.inr (by omega))).set _ (.inr (by omega)), ?_, ?_, ?_, ?_, ?_, by omega, by omega, by omega, by omega, by omega, by omega⟩, ?_⟩
        · simp only [go_sem, ↓reduceIte, Nat.reduceAdd, Nat.reduceMul, Nat.reduceSub, Nat.reduceEqDiff, Nat.reduceLT, Nat.reduceLeDiff, Int.reduceEq, Int.reduceLT, Int.reduceLE, Int.reduceAdd, Int.reduceSub, Int.reduceNeg, Int.reduceToNat, f0]
        · simp only [go_sem, ↓reduceIte, Nat.reduceAdd, Nat.reduceMul, Nat.reduceSub, Nat.reduceEqDiff, Nat.reduceLT, Nat.reduceLeDiff, Int.reduceEq, Int.reduceLT, Int.reduceLE, Int.reduceAdd, Int.reduceSub, Int.reduceNeg, Int.reduceToNat, f3]
        · simp only [go_sem, ↓reduceIte, Nat.reduceAdd, Nat.reduceMul, Nat.reduceSub, Nat.reduceEqDiff, Nat.reduceLT, Nat.reduceLeDiff, Int.reduceEq, Int.reduceLT, Int.reduceLE, Int.reduceAdd, Int.reduceSub, Int.reduceNeg, Int.reduceToNat, f4]
        · simp only [go_sem, ↓reduceIte, Nat.reduceAdd, Nat.reduceMul, Nat.reduceSub, Nat.reduceEqDiff, Nat.reduceLT, Nat.reduceLeDiff, Int.reduceEq, Int.reduceLT, Int.reduceLE, Int.reduceAdd, Int.reduceSub, Int.reduceNeg, Int.reduceToNat]
          rfl
        · simp only [go_sem, ↓reduceIte, Nat.reduceAdd, Nat.reduceMul, Nat.reduceSub, Nat.reduceEqDiff, Nat.reduceLT, Nat.reduceLeDiff, Int.reduceEq, Int.reduceLT, Int.reduceLE, Int.reduceAdd, Int.reduceSub, Int.reduceNeg, Int.reduceToNat, cellAt, cellsAt, aput?, get_alloc_eq, get_alloc_lt, get_set_eq, get_set_lt, Nat.add_left_cancel_iff, Nat.add_eq_left, Nat.left_eq_add, Nat.lt_add_right_iff_pos, Nat.add_lt_add_iff_left, Nat.add_eq_zero_iff, Nat.zero_lt_succ, Nat.lt_add_one, List.length_cons, List.length_nil, Nat.le_refl, and_self, get_alloc_of hA]
        · simp only [go_sem, ↓reduceIte, Nat.reduceAdd, Nat.reduceMul, Nat.reduceSub, Nat.reduceEqDiff, Nat.reduceLT, Nat.reduceLeDiff, Int.reduceEq, Int.reduceLT, Int.reduceLE, Int.reduceAdd, Int.reduceSub, Int.reduceNeg, Int.reduceToNat, cellAt, cellsAt, aput?, get_alloc_eq, get_alloc_lt, get_set_eq, get_set_lt, Nat.add_left_cancel_iff, Nat.add_eq_left, Nat.left_eq_add, Nat.lt_add_right_iff_pos, Nat.add_lt_add_iff_left, Nat.add_eq_zero_iff, Nat.zero_lt_succ, Nat.lt_add_one, List.length_cons, List.length_nil, Nat.le_refl, and_self, get_alloc_of hB, hltB]
        · exact ⟨.int .i64 1, .int .i64 1, .int .u64 0, .map (some h1.n), .ptr none, .int .u64 0, by simp only [go_sem, ↓reduceIte, Nat.reduceAdd, Nat.reduceMul, Nat.reduceSub, Nat.reduceEqDiff, Nat.reduceLT, Nat.reduceLeDiff, Int.reduceEq, Int.reduceLT, Int.reduceLE, Int.reduceAdd, Int.reduceSub, Int.reduceNeg, Int.reduceToNat, cellAt, cellsAt, aput?, get_alloc_eq, get_alloc_lt, get_set_eq, get_set_lt, Nat.add_left_cancel_iff, Nat.add_eq_left, Nat.left_eq_add, Nat.lt_add_right_iff_pos, Nat.add_lt_add_iff_left, Nat.add_eq_zero_iff, Nat.zero_lt_succ, Nat.lt_add_one, List.length_cons, List.length_nil, Nat.le_refl, and_self, hlt20]⟩
        · obtain ⟨d2, d3, d4, d5, d6, d7, hd⟩ := hL1
          exact ⟨d2, d3, d4, d5, d6, d7, by simp only [go_sem, ↓reduceIte, Nat.reduceAdd, Nat.reduceMul, Nat.reduceSub, Nat.reduceEqDiff, Nat.reduceLT, Nat.reduceLeDiff, Int.reduceEq, Int.reduceLT, Int.reduceLE, Int.reduceAdd, Int.reduceSub, Int.reduceNeg, Int.reduceToNat, cellAt, cellsAt, aput?, get_alloc_eq, get_alloc_lt, get_set_eq, get_set_lt, Nat.add_left_cancel_iff, Nat.add_eq_left, Nat.left_eq_add, Nat.lt_add_right_iff_pos, Nat.add_lt_add_iff_left, Nat.add_eq_zero_iff, Nat.zero_lt_succ, Nat.lt_add_one, List.length_cons, List.length_nil, Nat.le_refl, and_self, get_alloc_of hd]⟩
        · obtain ⟨d2, d3, d4, d5, d6, d7, hd⟩ := hL2
          exact ⟨d2, d3, d4, d5, d6, d7, by simp only [go_sem, ↓reduceIte, Nat.reduceAdd, Nat.reduceMul, Nat.reduceSub, Nat.reduceEqDiff, Nat.reduceLT, Nat.reduceLeDiff, Int.reduceEq, Int.reduceLT, Int.reduceLE, Int.reduceAdd, Int.reduceSub, Int.reduceNeg, Int.reduceToNat, cellAt, cellsAt, aput?, get_alloc_eq, get_alloc_lt, get_set_eq, get_set_lt, Nat.add_left_cancel_iff, Nat.add_eq_left, Nat.left_eq_add, Nat.lt_add_right_iff_pos, Nat.add_lt_add_iff_left, Nat.add_eq_zero_iff, Nat.zero_lt_succ, Nat.lt_add_one, List.length_cons, List.length_nil, Nat.le_refl, and_self, get_alloc_of hd]⟩
        · simp only [balM, f8]
          simp only [go_sem, ↓reduceIte, Nat.reduceAdd, Nat.reduceMul, Nat.reduceSub, Nat.reduceEqDiff, Nat.reduceLT, Nat.reduceLeDiff, Int.reduceEq, Int.reduceLT, Int.reduceLE, Int.reduceAdd, Int.reduceSub, Int.reduceNeg, Int.reduceToNat]
          omega
      · obtain ⟨c2, c3, c4, c5, c6, c7, hL⟩ := hL1
        have w1 : True := trivial
        obtain ⟨ab, hab⟩ : ∃ ab, ab = max (r.2 % 1099511627776) 0 := ⟨_, rfl⟩
        have hab1 : 0 ≤ ab ∧ ab ≤ 2199023255552 + 3 * (i : Int) := by omega
        have pw := hp
        obtain ⟨nb, hnb⟩ : ∃ nb, nb = nextB 1 ab b1 := ⟨_, rfl⟩
        have hn := nextB_gt 1 ab b1 (by omega) (by omega)
        rw [← hnb] at hn
        obtain ⟨n1, n2, n3, n4⟩ := hn
        have n5 : ¬ nb ≤ ab := by omega
        have n6 : ¬ nb ≤ b1 := by omega
        have n7 : nb.tmod 3 = 1 := by rw [Int.tmod_eq_emod_of_nonneg (by omega)]; exact n4
        have n8 : IntKind.i64.wrap (max ab b1 + 3) = max ab b1 + 3 := i64_id (by omega) (by omega)
        have n9 : ¬ max ab b1 + 3 < nb := by omega
        have n10 : IntKind.i64.wrap ((i : Int) + 1) = (i : Int) + 1 := i64_id (by omega) (by omega)
        have hS := fun K => Start_ok (G := G) E.free hL (a := ab) (f := 1) (by omega) (by omega) (by omega) (by omega) (by omega) (by omega) (by omega) (by omega) K
        rw [← hnb] at hS
        have hlt2 := AHeap.get_lt hL
        have hlt3 := AHeap.get_lt hB
        have hltB : h.n + 1 < h1.n + 1 := by omega
        have hlt20 : h.n + 3 < h1.n + 1 := by omega
        have hg2 : ((h1.alloc (.map [])).set (h.n + 3) (.cells [.int .i64 1, .int .i64 nb, .int .i64 1, .int .i64 1, .int .u64 0, .map (some h1.n), .ptr none, .int .u64 0, .bool true] false 1)).get (h.n + 3) = some (.cells [.int .i64 1, .int .i64 nb, .int .i64 1, .int .i64 1, .int .u64 0, .map (some h1.n), .ptr none, .int .u64 0, .bool true] false 1) := get_set_self' (by rw [AHeap.n_alloc]; omega)
        have hBal := fun K => Ballot_at (G := G) E.free hg2 K
        have hPh := fun K => Phase_at (G := G) E.free hg2 K
        simp only [go_sem, ↓reduceIte, Nat.reduceAdd, Nat.reduceMul, Nat.reduceSub, Nat.reduceEqDiff, Nat.reduceLT, Nat.reduceLeDiff, Int.reduceEq, Int.reduceLT, Int.reduceLE, Int.reduceAdd, Int.reduceSub, Int.reduceNeg, Int.reduceToNat, hw, pw, hp, w1, ← hab, hA, hB, get_alloc_of hA, get_alloc_of hB, f3, f4, f8, cellAt, cellsAt, aput?, get_alloc_eq, get_alloc_lt, get_set_eq, get_set_lt, Nat.add_left_cancel_iff, Nat.add_eq_left, Nat.left_eq_add, Nat.lt_add_right_iff_pos, Nat.add_lt_add_iff_left, Nat.add_eq_zero_iff, Nat.zero_lt_succ, Nat.lt_add_one, List.length_cons, List.length_nil, Nat.le_refl, and_self, hS, n5, n6, n7, n8, n9, hBal, hPh, n10]
        refine ⟨⟨i + 1, b0, nb, b2, ?_, ?_, ?_, ?_, by omega, by omega, ((hk.alloc _).set _ (.inr (by omega))).set _ (.inr (by omega)), ?_, ?_, ?_, ?_, ?_, by omega, by omega, by omega, by omega, by omega, by omega⟩, ?_⟩
        · simp only [go_sem, ↓reduceIte, Nat.reduceAdd, Nat.reduceMul, Nat.reduceSub, Nat.reduceEqDiff, Nat.reduceLT, Nat.reduceLeDiff, Int.reduceEq, Int.reduceLT, Int.reduceLE, Int.reduceAdd, Int.reduceSub, Int.reduceNeg, Int.reduceToNat, f0]
        · simp only [go_sem, ↓reduceIte, Nat.reduceAdd, Nat.reduceMul, Nat.reduceSub, Nat.reduceEqDiff, Nat.reduceLT, Nat.reduceLeDiff, Int.reduceEq, Int.reduceLT, Int.reduceLE, Int.reduceAdd, Int.reduceSub, Int.reduceNeg, Int.reduceToNat, f3]
        · simp only [go_sem, ↓reduceIte, Nat.reduceAdd, Nat.reduceMul, Nat.reduceSub, Nat.reduceEqDiff, Nat.reduceLT, Nat.reduceLeDiff, Int.reduceEq, Int.reduceLT, Int.reduceLE, Int.reduceAdd, Int.reduceSub, Int.reduceNeg, Int.reduceToNat, f4]
        · simp only [go_sem, ↓reduceIte, Nat.reduceAdd, Nat.reduceMul, Nat.reduceSub, Nat.reduceEqDiff, Nat.reduceLT, Nat.reduceLeDiff, Int.reduceEq, Int.reduceLT, Int.reduceLE, Int.reduceAdd, Int.reduceSub, Int.reduceNeg, Int.reduceToNat]
          rfl
        · simp only [go_sem, ↓reduceIte, Nat.reduceAdd, Nat.reduceMul, Nat.reduceSub, Nat.reduceEqDiff, Nat.reduceLT, Nat.reduceLeDiff, Int.reduceEq, Int.reduceLT, Int.reduceLE, Int.reduceAdd, Int.reduceSub, Int.reduceNeg, Int.reduceToNat, cellAt, cellsAt, aput?, get_alloc_eq, get_alloc_lt, get_set_eq, get_set_lt, Nat.add_left_cancel_iff, Nat.add_eq_left, Nat.left_eq_add, Nat.lt_add_right_iff_pos, Nat.add_lt_add_iff_left, Nat.add_eq_zero_iff, Nat.zero_lt_succ, Nat.lt_add_one, List.length_cons, List.length_nil, Nat.le_refl, and_self, get_alloc_of hA]
        · simp only [go_sem, ↓reduceIte, Nat.reduceAdd, Nat.reduceMul, Nat.reduceSub, Nat.reduceEqDiff, Nat.reduceLT, Nat.reduceLeDiff, Int.reduceEq, Int.reduceLT, Int.reduceLE, Int.reduceAdd, Int.reduceSub, Int.reduceNeg, Int.reduceToNat, cellAt, cellsAt, aput?, get_alloc_eq, get_alloc_lt, get_set_eq, get_set_lt, Nat.add_left_cancel_iff, Nat.add_eq_left, Nat.left_eq_add, Nat.lt_add_right_iff_pos, Nat.add_lt_add_iff_left, Nat.add_eq_zero_iff, Nat.zero_lt_succ, Nat.lt_add_one, List.length_cons, List.length_nil, Nat.le_refl, and_self, get_alloc_of hB, hltB]
        · obtain ⟨d2, d3, d4, d5, d6, d7, hd⟩ := hL0
          exact ⟨d2, d3, d4, d5, d6, d7, by simp only [go_sem, ↓reduceIte, Nat.reduceAdd, Nat.reduceMul, Nat.reduceSub, Nat.reduceEqDiff, Nat.reduceLT, Nat.reduceLeDiff, Int.reduceEq, Int.reduceLT, Int.reduceLE, Int.reduceAdd, Int.reduceSub, Int.reduceNeg, Int.reduceToNat, cellAt, cellsAt, aput?, get_alloc_eq, get_alloc_lt, get_set_eq, get_set_lt, Nat.add_left_cancel_iff, Nat.add_eq_left, Nat.left_eq_add, Nat.lt_add_right_iff_pos, Nat.add_lt_add_iff_left, Nat.add_eq_zero_iff, Nat.zero_lt_succ, Nat.lt_add_one, List.length_cons, List.length_nil, Nat.le_refl, and_self, get_alloc_of hd]⟩
        · exact ⟨.int .i64 1, .int .i64 1, .int .u64 0, .map (some h1.n), .ptr none, .int .u64 0, by simp only [go_sem, ↓reduceIte, Nat.reduceAdd, Nat.reduceMul, Nat.reduceSub, Nat.reduceEqDiff, Nat.reduceLT, Nat.reduceLeDiff, Int.reduceEq, Int.reduceLT, Int.reduceLE, Int.reduceAdd, Int.reduceSub, Int.reduceNeg, Int.reduceToNat, cellAt, cellsAt, aput?, get_alloc_eq, get_alloc_lt, get_set_eq, get_set_lt, Nat.add_left_cancel_iff, Nat.add_eq_left, Nat.left_eq_add, Nat.lt_add_right_iff_pos, Nat.add_lt_add_iff_left, Nat.add_eq_zero_iff, Nat.zero_lt_succ, Nat.lt_add_one, List.length_cons, List.length_nil, Nat.le_refl, and_self, hlt20]⟩
        · obtain ⟨d2, d3, d4, d5, d6, d7, hd⟩ := hL2
          exact ⟨d2, d3, d4, d5, d6, d7, by simp only [go_sem, ↓reduceIte, Nat.reduceAdd, Nat.reduceMul, Nat.reduceSub, Nat.reduceEqDiff, Nat.reduceLT, Nat.reduceLeDiff, Int.reduceEq, Int.reduceLT, Int.reduceLE, Int.reduceAdd, Int.reduceSub, Int.reduceNeg, Int.reduceToNat, cellAt, cellsAt, aput?, get_alloc_eq, get_alloc_lt, get_set_eq, get_set_lt, Nat.add_left_cancel_iff, Nat.add_eq_left, Nat.left_eq_add, Nat.lt_add_right_iff_pos, Nat.add_lt_add_iff_left, Nat.add_eq_zero_iff, Nat.zero_lt_succ, Nat.lt_add_one, List.length_cons, List.length_nil, Nat.le_refl, and_self, get_alloc_of hd]⟩
        · simp only [balM, f8]
          simp only [go_sem, ↓reduceIte, Nat.reduceAdd, Nat.reduceMul, Nat.reduceSub, Nat.reduceEqDiff, Nat.reduceLT, Nat.reduceLeDiff, Int.reduceEq, Int.reduceLT, Int.reduceLE, Int.reduceAdd, Int.reduceSub, Int.reduceNeg, Int.reduceToNat]
          omega
      · obtain ⟨c2, c3, c4, c5, c6, c7, hL⟩ := hL2
        have w1 : True := trivial
        obtain ⟨ab, hab⟩ : ∃ ab, ab = max (r.2 % 1099511627776) 0 := ⟨_, rfl⟩
        have hab1 : 0 ≤ ab ∧ ab ≤ 2199023255552 + 3 * (i : Int) := by omega
        have pw := hp
        obtain ⟨nb, hnb⟩ : ∃ nb, nb = nextB 2 ab b2 := ⟨_, rfl⟩
        have hn := nextB_gt 2 ab b2 (by omega) (by omega)
        rw [← hnb] at hn
        obtain ⟨n1, n2, n3, n4⟩ := hn
        have n5 : ¬ nb ≤ ab := by omega
        have n6 : ¬ nb ≤ b2 := by omega
        have n7 : nb.tmod 3 = 2 := by rw [Int.tmod_eq_emod_of_nonneg (by omega)]; exact n4
        have n8 : IntKind.i64.wrap (max ab b2 + 3) = max ab b2 + 3 := i64_id (by omega) (by omega)
        have n9 : ¬ max ab b2 + 3 < nb := by omega
        have n10 : IntKind.i64.wrap ((i : Int) + 1) = (i : Int) + 1 := i64_id (by omega) (by omega)
        have hS := fun K => Start_ok (G := G) E.free hL (a := ab) (f := 1) (by omega) (by omega) (by omega) (by omega) (by omega) (by omega) (by omega) (by omega) K
        rw [← hnb] at hS
        have hlt2 := AHeap.get_lt hL
        have hlt3 := AHeap.get_lt hB
        have hltB : h.n + 1 < h1.n + 1 := by omega
        have hlt20 : h.n + 4 < h1.n + 1 := by omega
        have hg2 : ((h1.alloc (.map [])).set (h.n + 4) (.cells [.int .i64 2, .int .i64 nb, .int .i64 1, .int .i64 1, .int .u64 0, .map (some h1.n), .ptr none, .int .u64 0, .bool true] false 1)).get (h.n + 4) = some (.cells [.int .i64 2, .int .i64 nb, .int .i64 1, .int .i64 1, .int .u64 0, .map (some h1.n), .ptr none, .int .u64 0, .bool true] false 1) := get_set_self' (by rw [AHeap.n_alloc]; omega)
        have hBal := fun K => Ballot_at (G := G) E.free hg2 K
        have hPh := fun K => Phase_at (G := G) E.free hg2 K
        simp only [go_sem, ↓reduceIte, Nat.reduceAdd, Nat.reduceMul, Nat.reduceSub, Nat.reduceEqDiff, Nat.reduceLT, Nat.reduceLeDiff, Int.reduceEq, Int.reduceLT, Int.reduceLE, Int.reduceAdd, Int.reduceSub, Int.reduceNeg, Int.reduceToNat, hw, pw, hp, w1, ← hab, hA, hB, get_alloc_of hA, get_alloc_of hB, f3, f4, f8, cellAt, cellsAt, aput?, get_alloc_eq, get_alloc_lt, get_set_eq, get_set_lt, Nat.add_left_cancel_iff, Nat.add_eq_left, Nat.left_eq_add, Nat.lt_add_right_iff_pos, Nat.add_lt_add_iff_left, Nat.add_eq_zero_iff, Nat.zero_lt_succ, Nat.lt_add_one, List.length_cons, List.length_nil, Nat.le_refl, and_self, hS, n5, n6, n7, n8, n9, hBal, hPh, n10]
        refine ⟨⟨i + 1, b0, b1, nb, ?_, ?_, ?_, ?_, by omega, by omega, ((hk.alloc _).set _ (.inr (by omega))).set _ (.inr (by omega)), ?_, ?_, ?_, ?_, ?_, by omega, by omega, by omega, by omega, by omega, by omega⟩, ?_⟩
        · simp only [go_sem, ↓reduceIte, Nat.reduceAdd, Nat.reduceMul, Nat.reduceSub, Nat.reduceEqDiff, Nat.reduceLT, Nat.reduceLeDiff, Int.reduceEq, Int.reduceLT, Int.reduceLE, Int.reduceAdd, Int.reduceSub, Int.reduceNeg, Int.reduceToNat, f0]
        · simp only [go_sem, ↓reduceIte, Nat.reduceAdd, Nat.reduceMul, Nat.reduceSub, Nat.reduceEqDiff, Nat.reduceLT, Nat.reduceLeDiff, Int.reduceEq, Int.reduceLT, Int.reduceLE, Int.reduceAdd, Int.reduceSub, Int.reduceNeg, Int.reduceToNat, f3]
        · simp only [go_sem, ↓reduceIte, Nat.reduceAdd, Nat.reduceMul, Nat.reduceSub, Nat.reduceEqDiff, Nat.reduceLT, Nat.reduceLeDiff, Int.reduceEq, Int.reduceLT, Int.reduceLE, Int.reduceAdd, Int.reduceSub, Int.reduceNeg, Int.reduceToNat, f4]
        · simp only [go_sem, ↓reduceIte, Nat.reduceAdd, Nat.reduceMul, Nat.reduceSub, Nat.reduceEqDiff, Nat.reduceLT, Nat.reduceLeDiff, Int.reduceEq, Int.reduceLT, Int.reduceLE, Int.reduceAdd, Int.reduceSub, Int.reduceNeg, Int.reduceToNat]
          rfl
        · simp only [go_sem, ↓reduceIte, Nat.reduceAdd, Nat.reduceMul, Nat.reduceSub, Nat.reduceEqDiff, Nat.reduceLT, Nat.reduceLeDiff, Int.reduceEq, Int.reduceLT, Int.reduceLE, Int.reduceAdd, Int.reduceSub, Int.reduceNeg, Int.reduceToNat, cellAt, cellsAt, aput?, get_alloc_eq, get_alloc_lt, get_set_eq, get_set_lt, Nat.add_left_cancel_iff, Nat.add_eq_left, Nat.left_eq_add, Nat.lt_add_right_iff_pos, Nat.add_lt_add_iff_left, Nat.add_eq_zero_iff, Nat.zero_lt_succ, Nat.lt_add_one, List.length_cons, List.length_nil, Nat.le_refl, and_self, get_alloc_of hA]
        · simp only [go_sem, ↓reduceIte, Nat.reduceAdd, Nat.reduceMul, Nat.reduceSub, Nat.reduceEqDiff, Nat.reduceLT, Nat.reduceLeDiff, Int.reduceEq, Int.reduceLT, Int.reduceLE, Int.reduceAdd, Int.reduceSub, Int.reduceNeg, Int.reduceToNat, cellAt, cellsAt, aput?, get_alloc_eq, get_alloc_lt, get_set_eq, get_set_lt, Nat.add_left_cancel_iff, Nat.add_eq_left, Nat.left_eq_add, Nat.lt_add_right_iff_pos, Nat.add_lt_add_iff_left, Nat.add_eq_zero_iff, Nat.zero_lt_succ, Nat.lt_add_one, List.length_cons, List.length_nil, Nat.le_refl, and_self, get_alloc_of hB, hltB]
        · obtain ⟨d2, d3, d4, d5, d6, d7, hd⟩ := hL0
          exact ⟨d2, d3, d4, d5, d6, d7, by simp only [go_sem, ↓reduceIte, Nat.reduceAdd, Nat.reduceMul, Nat.reduceSub, Nat.reduceEqDiff, Nat.reduceLT, Nat.reduceLeDiff, Int.reduceEq, Int.reduceLT, Int.reduceLE, Int.reduceAdd, Int.reduceSub, Int.reduceNeg, Int.reduceToNat, cellAt, cellsAt, aput?, get_alloc_eq, get_alloc_lt, get_set_eq, get_set_lt, Nat.add_left_cancel_iff, Nat.add_eq_left, Nat.left_eq_add, Nat.lt_add_right_iff_pos, Nat.add_lt_add_iff_left, Nat.add_eq_zero_iff, Nat.zero_lt_succ, Nat.lt_add_one, List.length_cons, List.length_nil, Nat.le_refl, and_self, get_alloc_of hd]⟩
        · obtain ⟨d2, d3, d4, d5, d6, d7, hd⟩ := hL1
          exact ⟨d2, d3, d4, d5, d6, d7, by simp only [go_sem, ↓reduceIte, Nat.reduceAdd, Nat.reduceMul, Nat.reduceSub, Nat.reduceEqDiff, Nat.reduceLT, Nat.reduceLeDiff, Int.reduceEq, Int.reduceLT, Int.reduceLE, Int.reduceAdd, Int.reduceSub, Int.reduceNeg, Int.reduceToNat, cellAt, cellsAt, aput?, get_alloc_eq, get_alloc_lt, get_set_eq, get_set_lt, Nat.add_left_cancel_iff, Nat.add_eq_left, Nat.left_eq_add, Nat.lt_add_right_iff_pos, Nat.add_lt_add_iff_left, Nat.add_eq_zero_iff, Nat.zero_lt_succ, Nat.lt_add_one, List.length_cons, List.length_nil, Nat.le_refl, and_self, get_alloc_of hd]⟩
        · exact ⟨.int .i64 1, .int .i64 1, .int .u64 0, .map (some h1.n), .ptr none, .int .u64 0, by simp only [go_sem, ↓reduceIte, Nat.reduceAdd, Nat.reduceMul, Nat.reduceSub, Nat.reduceEqDiff, Nat.reduceLT, Nat.reduceLeDiff, Int.reduceEq, Int.reduceLT, Int.reduceLE, Int.reduceAdd, Int.reduceSub, Int.reduceNeg, Int.reduceToNat, cellAt, cellsAt, aput?, get_alloc_eq, get_alloc_lt, get_set_eq, get_set_lt, Nat.add_left_cancel_iff, Nat.add_eq_left, Nat.left_eq_add, Nat.lt_add_right_iff_pos, Nat.add_lt_add_iff_left, Nat.add_eq_zero_iff, Nat.zero_lt_succ, Nat.lt_add_one, List.length_cons, List.length_nil, Nat.le_refl, and_self, hlt20]⟩
        · simp only [balM, f8]
          simp only [go_sem, ↓reduceIte, Nat.reduceAdd, Nat.reduceMul, Nat.reduceSub, Nat.reduceEqDiff, Nat.reduceLT, Nat.reduceLeDiff, Int.reduceEq, Int.reduceLT, Int.reduceLE, Int.reduceAdd, Int.reduceSub, Int.reduceNeg, Int.reduceToNat]
          omega
end
end Go.Sv
