/- YtlbgokakghchiaaDoorLdA: texts of one's own, merged: LdS1, LdS2. -/
import Derived.Test.YtlbgokakghchiaaDoorLdCode
import Derived.Test.YtlbgokakghchiaaDoorSx9
set_option linter.all false
namespace Go.Sv
open Go Go.Proofs Go.Sx Go.RowKit
set_option maxRecDepth 100000

abbrev Ovs := FuncId → Option (List AV → AHeap → Option (AV × AHeap))
structure LdFree (ov : Ovs) : Prop where
  no : ∀ f, (f == n_lead_enoughOf || f == n_law16_works) = false → ov f = none

section
variable {G : Nat → Option Nat} {ov : Ovs} {h : AHeap}

theorem tmod_emod (x : Int) {n : Int} (hn : 0 < n) : x % n = if x.tmod n < 0 then x.tmod n + n else x.tmod n := by
  have h1 := Int.mul_tdiv_add_tmod x n
  have h2 := Int.tmod_lt_of_pos x hn
  have h3 := Int.lt_tmod_of_pos x hn
  have h4 : x % n = x.tmod n % n := by
    conv => lhs; rw [← h1]
    rw [Int.add_comm, Int.add_mul_emod_self_left]
  rw [h4]
  split
  · rename_i hneg
    have h5 : (x.tmod n + n) % n = x.tmod n % n := Int.add_emod_right _ _
    rw [← h5, Int.emod_eq_of_lt (by omega) (by omega)]
  · rw [Int.emod_eq_of_lt (by omega) h2]

theorem Bring_eq (hov : ov n_ref00_Bring = none) {x n : Int} (hn : 0 < n) (hn2 : n ≤ 2 ^ 62) (K : AV → AHeap → Prop) :
    FW PR G ov n_ref00_Bring [.int .i64 x, .int .i64 n] h K = K (.int .i64 (x % n)) h := by
  refine FW_eq (call_ref00_Bring hov ?_) K
  have h0 : ¬ n = 0 := by omega
  have h2 := Int.tmod_lt_of_pos x hn
  have h3 := Int.lt_tmod_of_pos x hn
  rw [tmod_emod x hn]
  simp only [go_sem, ↓reduceIte, Nat.reduceAdd, Nat.reduceMul, Nat.reduceSub, Nat.reduceEqDiff, Nat.reduceLT, Nat.reduceLeDiff, Int.reduceEq, Int.reduceLT, Int.reduceLE, Int.reduceAdd, Int.reduceSub, Int.reduceNeg, Int.reduceToNat, c_ref00_Bring, h0]
  by_cases hx : x.tmod n < 0
  · simp only [go_sem, ↓reduceIte, Nat.reduceAdd, Nat.reduceMul, Nat.reduceSub, Nat.reduceEqDiff, Nat.reduceLT, Nat.reduceLeDiff, Int.reduceEq, Int.reduceLT, Int.reduceLE, Int.reduceAdd, Int.reduceSub, Int.reduceNeg, Int.reduceToNat, hx]
    rw [i64_id (by omega) (by omega)]
  · simp only [go_sem, ↓reduceIte, Nat.reduceAdd, Nat.reduceMul, Nat.reduceSub, Nat.reduceEqDiff, Nat.reduceLT, Nat.reduceLeDiff, Int.reduceEq, Int.reduceLT, Int.reduceLE, Int.reduceAdd, Int.reduceSub, Int.reduceNeg, Int.reduceToNat, hx]

/-! ### lead: what a leader is -/
theorem none_nil (E : LdFree ov) (K : AV → AHeap → Prop) : FW PR G ov n_lead_Lead_none [.ptr none] h K = K (.bool true) h := by
  refine FW_eq (call_lead_Lead_none (E.no _ rfl) ?_) K
  simp only [go_sem, ↓reduceIte, Nat.reduceAdd, Nat.reduceMul, Nat.reduceSub, Nat.reduceEqDiff, Nat.reduceLT, Nat.reduceLeDiff, Int.reduceEq, Int.reduceLT, Int.reduceLE, Int.reduceAdd, Int.reduceSub, Int.reduceNeg, Int.reduceToNat, c_lead_Lead_none]
theorem none_at (E : LdFree ov) {i : Nat} {c0 c1 c2 c3 c4 c5 c6 c7 : AV} {m ro : Bool} {e : Nat} (hg : h.get i = some (.cells [c0, c1, c2, c3, c4, c5, c6, c7, .bool m] ro e)) (K : AV → AHeap → Prop) :
    FW PR G ov n_lead_Lead_none [.ptr (some (i, 0))] h K = K (.bool !m) h := by
  refine FW_eq (call_lead_Lead_none (E.no _ rfl) ?_) K
  simp only [go_sem, ↓reduceIte, Nat.reduceAdd, Nat.reduceMul, Nat.reduceSub, Nat.reduceEqDiff, Nat.reduceLT, Nat.reduceLeDiff, Int.reduceEq, Int.reduceLT, Int.reduceLE, Int.reduceAdd, Int.reduceSub, Int.reduceNeg, Int.reduceToNat, c_lead_Lead_none, cellAt_of hg]
theorem Phase_at (E : LdFree ov) {i : Nat} {c0 c1 c2 c3 c4 c5 c6 c7 : AV} {ro : Bool} {e : Nat} (hg : h.get i = some (.cells [c0, c1, c2, c3, c4, c5, c6, c7, .bool true] ro e)) (K : AV → AHeap → Prop) :
    FW PR G ov n_lead_Lead_Phase [.ptr (some (i, 0))] h K = K c3 h := by
  refine FW_eq (call_lead_Lead_Phase (E.no _ rfl) ?_) K
  simp only [go_sem, ↓reduceIte, Nat.reduceAdd, Nat.reduceMul, Nat.reduceSub, Nat.reduceEqDiff, Nat.reduceLT, Nat.reduceLeDiff, Int.reduceEq, Int.reduceLT, Int.reduceLE, Int.reduceAdd, Int.reduceSub, Int.reduceNeg, Int.reduceToNat, c_lead_Lead_Phase, cellAt_of hg, none_at E hg]
theorem Ballot_at (E : LdFree ov) {i : Nat} {c0 c1 c2 c3 c4 c5 c6 c7 : AV} {ro : Bool} {e : Nat} (hg : h.get i = some (.cells [c0, c1, c2, c3, c4, c5, c6, c7, .bool true] ro e)) (K : AV → AHeap → Prop) :
    FW PR G ov n_lead_Lead_Ballot [.ptr (some (i, 0))] h K = K c1 h := by
  refine FW_eq (call_lead_Lead_Ballot (E.no _ rfl) ?_) K
  simp only [go_sem, ↓reduceIte, Nat.reduceAdd, Nat.reduceMul, Nat.reduceSub, Nat.reduceEqDiff, Nat.reduceLT, Nat.reduceLeDiff, Int.reduceEq, Int.reduceLT, Int.reduceLE, Int.reduceAdd, Int.reduceSub, Int.reduceNeg, Int.reduceToNat, c_lead_Lead_Ballot, cellAt_of hg, none_at E hg]
theorem From_at (E : LdFree ov) {i : Nat} {c0 c1 c2 c3 c4 c5 c6 c7 : AV} {ro : Bool} {e : Nat} (hg : h.get i = some (.cells [c0, c1, c2, c3, c4, c5, c6, c7, .bool true] ro e)) (K : AV → AHeap → Prop) :
    FW PR G ov n_lead_Lead_From [.ptr (some (i, 0))] h K = K c2 h := by
  refine FW_eq (call_lead_Lead_From (E.no _ rfl) ?_) K
  simp only [go_sem, ↓reduceIte, Nat.reduceAdd, Nat.reduceMul, Nat.reduceSub, Nat.reduceEqDiff, Nat.reduceLT, Nat.reduceLeDiff, Int.reduceEq, Int.reduceLT, Int.reduceLE, Int.reduceAdd, Int.reduceSub, Int.reduceNeg, Int.reduceToNat, c_lead_Lead_From, cellAt_of hg, none_at E hg]
theorem master_at (E : LdFree ov) {i : Nat} {c0 c1 c2 c3 c4 c5 c6 c7 : AV} {ro : Bool} {e : Nat} (hg : h.get i = some (.cells [c0, c1, c2, c3, c4, c5, c6, c7, .bool true] ro e)) (who : Int) (K : AV → AHeap → Prop) :
    FW PR G ov n_lead_Lead_master [.ptr (some (i, 0)), .int .i64 who] h K = K (.int .i64 (if 0 ≤ who ∧ who < 3 then 0 else 9)) h := by
  refine FW_eq (call_lead_Lead_master (E.no _ rfl) ?_) K
  simp only [go_sem, ↓reduceIte, Nat.reduceAdd, Nat.reduceMul, Nat.reduceSub, Nat.reduceEqDiff, Nat.reduceLT, Nat.reduceLeDiff, Int.reduceEq, Int.reduceLT, Int.reduceLE, Int.reduceAdd, Int.reduceSub, Int.reduceNeg, Int.reduceToNat, c_lead_Lead_master, none_at E hg]
  by_cases h1 : who < 0
  · simp only [go_sem, ↓reduceIte, Nat.reduceAdd, Nat.reduceMul, Nat.reduceSub, Nat.reduceEqDiff, Nat.reduceLT, Nat.reduceLeDiff, Int.reduceEq, Int.reduceLT, Int.reduceLE, Int.reduceAdd, Int.reduceSub, Int.reduceNeg, Int.reduceToNat, h1, show ¬ (0 ≤ who) by omega, false_and]
  · by_cases h2 : 3 ≤ who
    · simp only [go_sem, ↓reduceIte, Nat.reduceAdd, Nat.reduceMul, Nat.reduceSub, Nat.reduceEqDiff, Nat.reduceLT, Nat.reduceLeDiff, Int.reduceEq, Int.reduceLT, Int.reduceLE, Int.reduceAdd, Int.reduceSub, Int.reduceNeg, Int.reduceToNat, h1, h2, show ¬ (who < 3) by omega, and_false]
    · simp only [go_sem, ↓reduceIte, Nat.reduceAdd, Nat.reduceMul, Nat.reduceSub, Nat.reduceEqDiff, Nat.reduceLT, Nat.reduceLeDiff, Int.reduceEq, Int.reduceLT, Int.reduceLE, Int.reduceAdd, Int.reduceSub, Int.reduceNeg, Int.reduceToNat, h1, h2, show 0 ≤ who by omega, show who < 3 by omega]
theorem New_ok (E : LdFree ov) {id : Int} (h0 : 0 ≤ id) (h3 : id < 3) (K : AV → AHeap → Prop) :
    FW PR G ov n_lead_New [.int .i64 id] h K = K (.tuple [.ptr (some (h.n, 0)), .int .i64 0]) (h.alloc (.cells [.int .i64 id, .int .i64 0, .int .i64 0, .int .i64 0, .int .u64 0, .map none, .ptr none, .int .u64 0, .bool true] false 1)) := by
  refine FW_eq (call_lead_New (E.no _ rfl) ?_) K
  simp only [go_sem, ↓reduceIte, Nat.reduceAdd, Nat.reduceMul, Nat.reduceSub, Nat.reduceEqDiff, Nat.reduceLT, Nat.reduceLeDiff, Int.reduceEq, Int.reduceLT, Int.reduceLE, Int.reduceAdd, Int.reduceSub, Int.reduceNeg, Int.reduceToNat, c_lead_New, show ¬ id < 0 by omega, show ¬ 3 ≤ id by omega]
theorem New_no (E : LdFree ov) {id : Int} (h0 : ¬ (0 ≤ id ∧ id < 3)) (K : AV → AHeap → Prop) :
    FW PR G ov n_lead_New [.int .i64 id] h K = K (.tuple [.ptr none, .int .i64 2]) h := by
  refine FW_eq (call_lead_New (E.no _ rfl) ?_) K
  by_cases h1 : id < 0
  · simp only [go_sem, ↓reduceIte, Nat.reduceAdd, Nat.reduceMul, Nat.reduceSub, Nat.reduceEqDiff, Nat.reduceLT, Nat.reduceLeDiff, Int.reduceEq, Int.reduceLT, Int.reduceLE, Int.reduceAdd, Int.reduceSub, Int.reduceNeg, Int.reduceToNat, c_lead_New, h1]
  · simp only [go_sem, ↓reduceIte, Nat.reduceAdd, Nat.reduceMul, Nat.reduceSub, Nat.reduceEqDiff, Nat.reduceLT, Nat.reduceLeDiff, Int.reduceEq, Int.reduceLT, Int.reduceLE, Int.reduceAdd, Int.reduceSub, Int.reduceNeg, Int.reduceToNat, c_lead_New, h1, show 3 ≤ id by omega]
end
end Go.Sv
namespace Go.Sv
open Go Go.Proofs Go.Sx Go.RowKit
set_option maxRecDepth 100000

/-- the next ballot of a master -/
def nextB (id above B : Int) : Int := max above B + 1 + (id - (max above B + 1) % 3 + 3) % 3
theorem nextB_gt (id above B : Int) (h0 : 0 ≤ id) (h3 : id < 3) : above < nextB id above B ∧ B < nextB id above B ∧ nextB id above B ≤ max above B + 3 ∧ nextB id above B % 3 = id := by
  unfold nextB; omega

section
variable {G : Nat → Option Nat} {ov : Ovs} {h : AHeap}
theorem Start_ok (E : LdFree ov) {i : Nat} {id B a f : Int} {c2 c3 c4 c5 c6 c7 : AV} {e : Nat} (hg : h.get i = some (.cells [.int .i64 id, .int .i64 B, c2, c3, c4, c5, c6, c7, .bool true] false e))
    (h0 : 0 ≤ id) (h3 : id < 3) (hB : 0 ≤ B) (hB2 : B ≤ 2 ^ 60) (ha : 0 ≤ a) (ha2 : a ≤ 9007199254740988) (hf : 1 ≤ f) (hf2 : f ≤ 9007199254740991) (K : AV → AHeap → Prop) :
    FW PR G ov n_lead_Lead_Start [.ptr (some (i, 0)), .int .i64 a, .int .i64 f] h K =
      K (.tuple [.int .i64 (nextB id a B), .int .i64 0]) ((h.alloc (.map [])).set i (.cells [.int .i64 id, .int .i64 (nextB id a B), .int .i64 f, .int .i64 1, .int .u64 0, .map (some h.n), .ptr none, .int .u64 0, .bool true] false e)) := by
  refine FW_eq (call_lead_Lead_Start (E.no _ rfl) ?_) K
  have e1 : IntKind.i64.wrap (max a B + 1) = max a B + 1 := i64_id (by omega) (by omega)
  have e2 : (max a B + 1).tmod 3 = (max a B + 1) % 3 := Int.tmod_eq_emod_of_nonneg (by omega)
  have e3 : IntKind.i64.wrap (id - (max a B + 1) % 3) = id - (max a B + 1) % 3 := i64_id (by omega) (by omega)
  have e4 : IntKind.i64.wrap (id - (max a B + 1) % 3 + 3) = id - (max a B + 1) % 3 + 3 := i64_id (by omega) (by omega)
  have e5 : (id - (max a B + 1) % 3 + 3).tmod 3 = (id - (max a B + 1) % 3 + 3) % 3 := Int.tmod_eq_emod_of_nonneg (by omega)
  have e6 : IntKind.i64.wrap (max a B + 1 + (id - (max a B + 1) % 3 + 3) % 3) = nextB id a B := i64_id (by omega) (by omega)
  simp only [go_sem, ↓reduceIte, Nat.reduceAdd, Nat.reduceMul, Nat.reduceSub, Nat.reduceEqDiff, Nat.reduceLT, Nat.reduceLeDiff, Int.reduceEq, Int.reduceLT, Int.reduceLE, Int.reduceAdd, Int.reduceSub, Int.reduceNeg, Int.reduceToNat, c_lead_Lead_Start, none_at E hg, show ¬ a < 0 by omega, show ¬ 9007199254740988 < a by omega, show ¬ f < 1 by omega, show ¬ 9007199254740991 < f by omega, cellAt_of hg, e1, e2, e3, e4, e5, e6, aput_whole (get_alloc_of hg _)]
end
end Go.Sv
