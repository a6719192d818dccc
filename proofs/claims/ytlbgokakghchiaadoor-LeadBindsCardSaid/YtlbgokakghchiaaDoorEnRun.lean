/- YtlbgokakghchiaaDoorEnRun: texts of one's own, merged: EnRun. -/
import Derived.RangeFuncBox
import Derived.RangeFuncLeaves
import Derived.RangeFuncNested
import Derived.Shelf.Abstract
import Derived.WalkKit
import Derived.OwnWalkIn
import Derived.TacticsInMore
import Derived.LoopNIn
import Derived.LoopIn
import Derived.BigFrameIn
import Derived.Test.YtlbgokakghchiaaDoorChecked
set_option linter.all false
namespace Go.Sx.En
open Go Go.Proofs Go.RowKit Go.Shelf
attribute [local go_sem] Oper.semAt_some

abbrev I64 := { x : Int // (Lit.int .i64 x).wf = true }

/-- the number of bits of a small set -/
def pc (x : Int) : Nat := if x = 0 then 0 else if x = 1 ∨ x = 2 ∨ x = 4 then 1 else if x = 7 then 3 else 2

theorem pc_le (s : Int) : pc s ≤ 3 := by
  unfold pc
  repeat' split
  all_goals omega
theorem pc_pos {x : Int} (hz : ¬ x = 0) : 1 ≤ pc x := by
  unfold pc
  rw [if_neg hz]
  repeat' split
  all_goals omega

/-- what math/bits.TrailingZeros is known to do -/
def TZ (n₀ : Nat) (w0 : World) : Prop := ∀ (y : Int), 1 ≤ y → y ≤ 7 → ∀ W, Below n₀ w0 W → Calls Tryd.prog 103 #[.int .u64 y] W fun e W' => (∃ v : I64, e = .returned (.int .i64 v.1)) ∧ Below W.heap.size W W'

set_option maxRecDepth 100000 in
set_option maxHeartbeats 4000000 in
theorem all1_in (n : Nat) (hn : 1 ≤ n) (l Bn n₀ : Nat) (s : Int) (hs0 : 0 ≤ s) (hs : s ≤ 7) (w0 : World) (hTZ : TZ n₀ w0) (J Jx : List I64 → World → Prop)
    (hn0 : n₀ ≤ w0.heap.size) (hJk : ∀ pre W W', J pre W → Below W.heap.size W W' → J pre W')
    (hY : ∀ pre x W, J pre W → pre.length < 8 → YieldAt Fence.wide (n - 1) Tryd.prog l #[.int .i64 x.1] W fun e W' =>
      (e = .returned (.bool true) ∧ J (pre ++ [x]) W' ∧ Below n₀ W W') ∨ (e = .returned (.bool false) ∧ Jx (pre ++ [x]) W'))
    (W : World) (hBn : W.cell? ⟨Bn, 0, none⟩ = some (.int .u64 s)) (hB0 : Below n₀ w0 W) (h0 : J [] W) :
    CallsIn Fence.wide n Tryd.prog 102 #[.func (.yield l) #[] #[], .pointer (some ⟨Bn, 0, none⟩)] W fun e W' => (∃ v, e = .returned v) ∧
      ((∃ ys : List I64, ys.length = pc s ∧ J ys W') ∨ (∃ pre, Jx pre W')) := by
  refine callsIn_of_wp Tryd.func102 rfl trivial ?_ rfl
  simp only [Tryd.ntmps102, List.size_toArray, List.length_cons, List.length_nil, Nat.reduceAdd, Nat.reduceSub, Array.replicate_succ, Array.replicate_zero, List.push_toArray, List.append_toArray, List.nil_append, List.cons_append]
  gi_wp2
  gi_loopw [3] (fun p wr => ∃ (pre : List I64) (x : Int), p = .int .u64 x ∧ 0 ≤ x ∧ x ≤ 7 ∧ pre.length + pc x = pc s ∧ J pre wr ∧ Below n₀ w0 wr)
    (fun p wr => (intOf p).toNat)
  case atStart => exact ⟨[], s, rfl, hs0, hs, by simp, h0, hB0⟩
  case round =>
    obtain ⟨pre, x, rfl, hx0, hx7, hlen, hJs, hBr⟩ := hrel
    by_cases hz : x = 0
    · subst hz
      gi_wp2
      go_end0
      exact ⟨⟨_, rfl⟩, .inl ⟨pre, by simpa [pc] using hlen, hJs⟩⟩
    · have hpc := pc_le s
      have hx1 := pc_pos hz
      gi_wp2
      refine ⟨trivial, (callsIn_wide.2 (hTZ x (by omega) hx7 _ hBr)).mono ?_⟩
      rintro e W1 ⟨⟨v, rfl⟩, hb1⟩
      have hJ1 := hJk _ _ _ hJs hb1
      have hB1 := hBr.trans (hb1.mono (Nat.le_trans hn0 hBr.size))
      obtain ⟨fn, tmps, assign, body, hy, hR⟩ := hY pre v W1 hJ1 (by omega)
      gi_wp2
      refine hR.mono ?_
      rintro e W3 (⟨rfl, hJ3, hk3⟩ | ⟨rfl, hJx3⟩)
      · have hc : x = 1 ∨ x = 2 ∨ x = 3 ∨ x = 4 ∨ x = 5 ∨ x = 6 ∨ x = 7 := by omega
        have hx' : ∃ x' : Int, x' < x ∧ 0 ≤ x' ∧ x' ≤ 7 ∧ pc x' + 1 = pc x ∧ bits .and .u64 x (x - 1) = x' := by
          rcases hc with rfl | rfl | rfl | rfl | rfl | rfl | rfl
          · exact ⟨0, by decide, by decide, by decide, by decide, by kernel_rfl⟩
          · exact ⟨0, by decide, by decide, by decide, by decide, by kernel_rfl⟩
          · exact ⟨2, by decide, by decide, by decide, by decide, by kernel_rfl⟩
          · exact ⟨0, by decide, by decide, by decide, by decide, by kernel_rfl⟩
          · exact ⟨4, by decide, by decide, by decide, by decide, by kernel_rfl⟩
          · exact ⟨4, by decide, by decide, by decide, by decide, by kernel_rfl⟩
          · exact ⟨6, by decide, by decide, by decide, by decide, by kernel_rfl⟩
        obtain ⟨x', k1, k2, k3, k4, k5⟩ := hx'
        gi_wp2
        refine ⟨⟨pre ++ [v], x', rfl, k2, k3, ?_, hJ3, hB1.trans hk3⟩, ?_⟩
        · simp only [List.length_append, List.length_singleton]; omega
        · simp only [intOf]; omega
      · gi_wp2
        refine bodyPost_ret (results_none rfl _ _ _) rfl ?_
        exact ⟨⟨_, rfl⟩, .inr ⟨pre ++ [v], hJx3⟩⟩

set_option maxHeartbeats 1000000 in
theorem all_in (n : Nat) (s : Int) (w : World) :
    CallsIn Fence.wide n Tryd.prog 90 #[.int .u64 s] w fun e w' => e = .returned (.func (.func 102) #[] #[.pointer (some ⟨w.heap.size, 0, none⟩)]) ∧ w' = w.alloc (.cells #[.int .u64 s] 77) := by
  refine callsIn_of_wp Tryd.func90 rfl trivial ?_ rfl
  simp only [Tryd.ntmps90, List.size_toArray, List.length_cons, List.length_nil, Nat.reduceAdd, Nat.reduceSub, Array.replicate_succ, Array.replicate_zero, List.push_toArray, List.append_toArray, List.nil_append, List.cons_append]
  gi_wp2
  go_ret
  exact ⟨rfl, rfl⟩

theorem all_stops (n : Nat) (hn : 1 ≤ n) (Bn n₀ : Nat) (s : Int) (hs0 : 0 ≤ s) (hs : s ≤ 7) (w0 : World) (hTZ : TZ n₀ w0) (w : World) (hBn : Bn < w.heap.size) (hc : w.cell? ⟨Bn, 0, none⟩ = some (.int .u64 s)) (hn0 : n₀ ≤ w0.heap.size) (hw : Below n₀ w0 w) :
    SeqStopsK Fence.wide n Tryd.prog 102 #[.pointer (some ⟨Bn, 0, none⟩)] (fun x : I64 => #[Value.int .i64 x.1]) (Below n₀) (fun ys => ys.length = pc s) (fun _ => True) 8 w := by
  intro l J Jx W hW hJ hJx hY h0
  refine (all1_in n hn l Bn n₀ s hs0 hs w0 hTZ J Jx hn0 ?_ hY W ((hW.cell (p := ⟨Bn, 0, none⟩) hBn).trans hc) (hw.trans (hW.mono (Nat.le_trans hn0 hw.size))) h0).mono ?_
  · intro pre W W' hp hb
    exact hJ pre W W' none hp ⟨hb.os, hb.tape, hb.output, hb.size, fun k hk _ => hb.block k hk⟩ (fun r h => by cases h)
  · rintro e W' ⟨h1, h2 | ⟨pre, h2⟩⟩
    · exact ⟨h1, .inl h2⟩
    · exact ⟨h1, .inr ⟨pre, trivial, h2⟩⟩

set_option maxRecDepth 100000 in
set_option maxHeartbeats 2000000 in
theorem enough_in (n : Nat) (hn : 3 ≤ n) (s : Int) (hs0 : 0 ≤ s) (hs : s ≤ 7) (w : World) (hTZ : TZ w.heap.size w) :
    CallsIn Fence.wide n Tryd.prog 55 #[.int .u64 s] w fun e W' => e = .returned (.bool (decide (2 ≤ pc s))) ∧ Below w.heap.size w W' := by
  refine callsIn_of_wp_marks Tryd.func55 rfl trivial ?_ rfl
  simp only [Tryd.ntmps55, List.size_toArray, List.length_cons, List.length_nil, Nat.reduceAdd, Nat.reduceSub, Array.replicate_succ, Array.replicate_zero, List.push_toArray, List.append_toArray, List.nil_append, List.cons_append]
  gi_wp2
  refine ⟨trivial, fun _ => by omega, (all_in (n - 1) s _).mono ?_⟩
  rintro e w' ⟨rfl, rfl⟩
  gi_wp2
  have bS := (Boxed.new w 3 (.int .i64 0)).alloc (.cells #[.int .u64 s] 77)
  have bN := Boxed.new (w.alloc (.cells #[.int .i64 0] 3)) 77 (.int .u64 s)
  simp only [World.size_alloc] at bN
  have hB0 : Below w.heap.size w ((w.alloc (.cells #[.int .i64 0] 3)).alloc (.cells #[.int .u64 s] 77)) := ((Below.refl _ w).alloc (Nat.le_refl _) _).alloc (by simp) _
  refine wpIn_rangeFunc_ownG rfl (by omega : 1 ≤ n) (gf := 102) (lb := #[.pointer (some ⟨w.heap.size + 1, 0, none⟩)]) rfl trivial (enters_of Tryd.func102 (by kernel_rfl) rfl)
    (all_stops (n - 1) (by omega) (w.heap.size + 1) w.heap.size s hs0 hs w hTZ _ (by simp) bN.cell (Nat.le_refl _) hB0) belowK_t (belowK_b (by simp; omega)) (Below.refl _ _) (fun _ => rfl)
    (fun pre W => Boxed W w.heap.size 3 (.int .i64 (pre.length : Int)) ∧ Below w.heap.size w W)
    (fun _ _ _ => False)
    (OwnFrom.and ((boxed_own w.heap.size 3 (fun (pre : List I64) => .int .i64 (pre.length : Int))).from _) (ownFrom_below (Nat.le_refl _) (by simp; omega)))
    (fun _ _ _ _ _ hs _ _ => hs)
    ⟨bS, hB0⟩
    (fun x => { tmps := #[.int .u64 s, undef, .bool false, .pointer (some ⟨w.heap.size, 0, none⟩), .int .u64 s, .func (.func 102) #[] #[.pointer (some ⟨w.heap.size + 1, 0, none⟩)], .int .i64 x.1, undef, undef, undef, undef], defers := [] }) ?assign ?body ?done ?stop
  case assign =>
    intro l x W K hK
    gi_wp2
    simpa using hK
  case body =>
    rintro l pre x W ⟨hb, hB⟩ hlt
    have hc := hb.cell
    have hf := hb.frozen
    gi_wp2
    have hg := grownBy_setCell' W w.heap.size (.int .i64 ((pre.length : Int) + 1))
    have hk : Below w.heap.size W (W.setCell ⟨w.heap.size, 0, none⟩ (.int .i64 ((pre.length : Int) + 1))) := Below.setCell (p := ⟨w.heap.size, 0, none⟩) (Below.refl w.heap.size W) (Nat.le_refl _) _
    refine ⟨KeepsFrom.of_grownBy hg (fun j e => by cases e; simp; omega), hk, ?_, hB.trans hk⟩
    have h1 := hb.set (.int .i64 ((pre.length : Int) + 1))
    have e1 : (((pre ++ [x]).length : Nat) : Int) = (pre.length : Int) + 1 := by simp
    rw [e1]
    exact h1
  case done =>
    rintro D ys W hD hlen ⟨hb, hB⟩ hK
    have hc := hb.cell
    gi_wp2
    refine ⟨by simp, .inl ⟨_, _, rfl, run_takeDeferred hK, ?_⟩⟩
    refine ⟨_, results_tmp rfl _ _ _, ?_, hB.trans (belowK_b (w := w) (Nat.le_refl _) W D _ _ (by simp at hD; omega) hK rfl rfl)⟩
    show Ending.returned (Value.bool (decide ((2 : Int) ≤ ((pc s : Nat) : Int)))) = _
    congr 2
    exact decide_eq_decide.2 (by omega)
  case stop =>
    rintro D c pre W _ _ h _
    exact h.elim

/-- HOW MANY MASTERS ARE ENOUGH -/
theorem enough (s : Int) (hs0 : 0 ≤ s) (hs : s ≤ 7) (w : World) (hTZ : TZ w.heap.size w) :
    Calls Tryd.prog 55 #[.int .u64 s] w fun e W' => e = .returned (.bool (decide (2 ≤ pc s))) ∧ Below w.heap.size w W' :=
  callsIn_wide.1 (enough_in 3 (Nat.le_refl _) s hs0 hs w hTZ)
#print axioms enough
end Go.Sx.En
