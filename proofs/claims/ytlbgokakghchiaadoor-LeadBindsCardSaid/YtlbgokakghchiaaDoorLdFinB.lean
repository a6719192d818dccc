/- YtlbgokakghchiaaDoorLdFinB: texts of one's own, merged: LdFin2. -/
import Derived.Test.YtlbgokakghchiaaDoorLdOv
import Derived.Test.YtlbgokakghchiaaDoorLdBin
import Derived.Test.YtlbgokakghchiaaDoorSx9
import Derived.Test.YtlbgokakghchiaaDoorCards
import Derived.Test.YtlbgokakghchiaaDoorTie
set_option linter.all false
namespace Go.Sv
open Go Go.Proofs Go.Sx Go.RowKit
set_option maxRecDepth 1000000

theorem tab_eq : bitTab = Ld.tab := rfl
theorem ld_env : LdEnv Ld.G Ld.ov2 := by
  refine ⟨⟨?_⟩, ?_, ?_⟩
  · intro f hf
    simp only [Bool.or_eq_false_iff, beq_eq_false_iff_ne, ne_eq] at hf
    unfold Ld.ov2 Ld.ov1
    rw [if_neg hf.2, if_neg hf.1]
  · intro h K hT
    refine FW_eq ⟨1, .bool true, h, ?_, rfl, rfl⟩ K
    have hro : hasRo Ld.objs h = true := by
      unfold hasRo
      refine List.all_eq_true.2 fun i hi => ?_
      have hi' : i = 0 := by have := List.mem_range.1 hi; simp [Ld.objs] at this; omega
      subst hi'
      have hT' : h.get 0 = some (.cells (Ld.tab.map (.int .u8)) true 1) := hT
      rw [hT']
      exact AV.beqL_refl _
    show (match Ld.ov2 22 with | some g => g [] h | none => acallF PR Ld.G 0 (acall PR Ld.G Ld.ov2 0) 22 [] h) = _
    have : Ld.ov2 22 = some (ovClosed Ld.objs (.bool true)) := rfl
    rw [this]
    simp only [ovClosed, hro, if_true]

  · intro h K s hT h0 h7
    refine FW_eq ⟨1, .bool (decide (2 ≤ pc3 s)), h, ?_, rfl, rfl⟩ K
    have hro : hasRo Ld.objs h = true := by
      unfold hasRo
      refine List.all_eq_true.2 fun i hi => ?_
      have hi' : i = 0 := by have := List.mem_range.1 hi; simp [Ld.objs] at this; omega
      subst hi'
      have hT' : h.get 0 = some (.cells (Ld.tab.map (.int .u8)) true 1) := hT
      rw [hT']
      exact AV.beqL_refl _
    show (match Ld.ov2 55 with | some g => g [.int .u64 s] h | none => acallF PR Ld.G 0 (acall PR Ld.G Ld.ov2 0) 55 [.int .u64 s] h) = _
    have : Ld.ov2 55 = some Ld.ovEnough := rfl
    rw [this]
    simp only [Ld.ovEnough]
    rw [if_pos ⟨h0, h7, hro⟩]
    rfl

theorem tab_of_grow {h : AHeap} (g : Grow (roH Ld.objs) h) : HasTab h := g.2 _ _ (by rw [roH_get]; rfl)

/-- ranges, out of well-formedness -/
theorem wf_i64 {x : Int} (h : (Lit.int .i64 x).wf = true) : -9223372036854775808 ≤ x ∧ x ≤ 9223372036854775807 := by
  simp [Lit.wf, IntKind.min, IntKind.max, IntKind.signed, IntKind.bits] at h
  omega

theorem seq_flat {P : Program} {H : TypeId → List AV → Prop} {e : TypeId} {A : Type} {enc : A → List AV} {good : A → Prop} (hlen : ∀ a, (enc a).length = P.cellsOf e) (hH : ∀ cs, H e cs → ∃ a, cs = enc a ∧ good a) :
    ∀ (len : Nat) (c : List AV), HasSeq P H (List.replicate len e) c → ∃ xs : List A, xs.length = len ∧ c = xs.flatMap enc ∧ ∀ a ∈ xs, good a
  | 0, c, h => ⟨[], rfl, h, by simp⟩
  | len + 1, c, h => by
    rw [List.replicate_succ] at h
    obtain ⟨h1, h2, h3⟩ := h
    obtain ⟨a, ha, hg⟩ := hH _ h2
    obtain ⟨xs, q1, q2, q3⟩ := seq_flat hlen hH len _ h3
    refine ⟨a :: xs, by simp [q1], ?_, ?_⟩
    · rw [List.flatMap_cons, ← q2, ← ha, List.take_append_drop]
    · intro b hb
      rcases List.mem_cons.1 hb with rfl | hb
      · exact hg
      · exact q3 b hb

/-- a slice that is given -/
theorem sl_of {P : Program} {h : AHeap} {n : Nat} {t e : TypeId} {v : AV} {A : Type} {enc : A → List AV} {good : A → Prop} (hu : P.underlying t = some (.slice e)) (hv : HasV P h (n + 1) t v) (hlen : ∀ a, (enc a).length = P.cellsOf e)
    (hH : ∀ cs, HasC P h n e cs → ∃ a, cs = enc a ∧ good a) : ∃ (xs : List A) (ids : List Nat), Sl h (P.cellsOf e) v xs.length (xs.flatMap enc) ids ∧ (∀ i ∈ ids, i < h.n) ∧ ∀ a ∈ xs, good a := by
  rcases hv with ⟨cs, _, ⟨d, hd, hq⟩, _⟩ | ⟨_, hc⟩
  · rw [hu] at hd; cases hd; cases hq
  unfold HasC at hc
  rw [hu] at hc
  simp only at hc
  rcases hc with hc | ⟨i, len, cap, hc, hle, hc2⟩
  · simp only [List.cons.injEq, and_true] at hc
    subst hc
    exact ⟨[], [], Sl.nil _ _ _, by simp, by simp⟩
  · simp only [List.cons.injEq, and_true] at hc
    subst hc
    rcases hc2 with rfl | ⟨c, hg, hs⟩
    · exact ⟨[], [], ⟨some (i, 0), cap, none, false, rfl, by simp, hle, nofun, .inl ⟨rfl, rfl⟩⟩, by simp, by simp⟩
    · obtain ⟨xs, q1, q2, q3⟩ := seq_flat hlen hH len c hs
      have hcl : c.length = len * P.cellsOf e := by
        rw [q2, ← q1]
        clear q2 q3 hs hg q1
        induction xs with
        | nil => simp
        | cons a xs ih => simp [ih, hlen, Nat.succ_mul]; omega
      refine ⟨xs, [i], ⟨some (i, 0), cap, none, false, by rw [q1], by simp, by omega, nofun, .inr ⟨i, 0, c, true, 1, rfl, rfl, List.mem_singleton.2 rfl, hg, by rw [q1]; omega, ?_⟩⟩, ?_, q3⟩
      · rw [List.drop_zero, q1, List.take_of_length_le (by omega)]; exact q2.symm
      · intro j hj; rw [List.mem_singleton.1 hj]; exact AHeap.get_lt hg
end Go.Sv
