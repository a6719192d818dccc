/- YtlbgokakghchiaaDoorLdC3: texts of one's own, merged: LdC3. -/
import Derived.Test.YtlbgokakghchiaaDoorLdCc
set_option linter.all false
namespace Go.Proofs.YtlbgokakghchiaaDoor
open Go Go.ChangeShapes Go.WideShapes Go.ChangeAt Go.RowKit Go.Sx Go.Sx.Ld Go.Sv
set_option maxRecDepth 1000000

theorem int_of {h : AHeap} {n : Nat} {v : AV} (hv : HasV Tryd.prog h (n + 1) 3 v) : ∃ x, v = .int .i64 x := by
  rcases hv with ⟨cs, _, ⟨d, hd, hq⟩, _⟩ | ⟨_, hc⟩
  · rw [Tryd.underlying3] at hd; cases hd; cases hq
  unfold HasC at hc
  rw [Tryd.underlying3] at hc
  obtain ⟨x, hx, _⟩ := hc
  simp only [List.cons.injEq, and_true] at hx
  exact ⟨x, hx⟩

theorem hasVs3 {P : Program} {h : AHeap} {n : Nat} {t1 t2 t3 : TypeId} {xs : List AV} (hx : HasVs P h n [t1, t2, t3] xs) : ∃ a v b, xs = [a, v, b] ∧ HasV P h n t1 a ∧ HasV P h n t2 v ∧ HasV P h n t3 b := by
  match xs, hx with
  | [a, v, b], hx => exact ⟨a, v, b, rfl, hx.1, hx.2.1, hx.2.2.1⟩
  | _ :: _ :: _ :: _ :: _, hx => exact nomatch hx.2.2.2

theorem binds_from (h : AHeap) (xs : List AV) (g : Grow (roH objs) h) (hx : HasVs Tryd.prog h 4 [3, 22, 3] xs) : FW Tryd.prog G ov2 3 xs h fun u _ => u = .bool true := by
  obtain ⟨a, v, b, rfl, hxa, hxv, hxb⟩ := hasVs3 hx
  obtain ⟨a, rfl⟩ := int_of (n := 3) hxa
  obtain ⟨b, rfl⟩ := int_of (n := 3) hxb
  obtain ⟨rows, ids, hs, _, hg⟩ := sl_of (P := Tryd.prog) (n := 3) (A := Int × Int × Int) (enc := enc3) (good := fun _ => True) Tryd.underlying22 hxv (fun a => by
    show 3 = Tryd.prog.cellsOf 31; kernel_rfl) (fun cs hc => by
    unfold HasC at hc
    rw [Tryd.underlying31] at hc
    obtain ⟨q1, q2, q3, q4, q5, q6, q7⟩ := hc
    have e3 : Tryd.prog.cellsOf 3 = 1 := by kernel_rfl
    rw [e3] at q1 q2 q3 q4 q5 q6 q7
    unfold HasC at q2 q4 q6
    rw [Tryd.underlying3] at q2 q4 q6
    obtain ⟨x, hx, _⟩ := q2
    obtain ⟨y, hy, _⟩ := q4
    obtain ⟨z, hz, _⟩ := q6
    refine ⟨(x, y, z), ?_, trivial⟩
    have := List.take_append_drop 1 cs
    rw [← this, hx, ← List.take_append_drop 1 (cs.drop 1), hy, ← List.take_append_drop 1 ((cs.drop 1).drop 1), hz, q7]
    rfl)
  have e2 : Tryd.prog.cellsOf 31 = 3 := by kernel_rfl
  rw [e2] at hs
  exact binds_run ld_env (tab_of_grow g) hs

theorem leadBinds_lifted (os : Os) (started : os.Started) (H : Type) (enc : TypeId × Value → H) :
    ReturnsInHanded {} Tryd.checked os 3 .any (fun w args => (Rows.leadBindsSpec.pre enc Tryd.prog Tryd.f3 Rows.leadBindsRow.domain false w args ∧ laidMet Tryd.prog laidBits w) ∧ sizedMet enc Tryd.prog Tryd.f3 (OpenSpec.ofChange Rows.leadBindsSpec) false w args)
      (Rows.leadBindsSpec.post enc Tryd.prog Tryd.f3 false true false false) := by
  refine returnsInHanded_of_change_and (C := Tryd.checked) (X := fun w _ => laidMet Tryd.prog laidBits w) (fun _ _ _ hh h => h.of_heap hh) Tryd.own started (by kernel_rfl) Tryd.func3
    (ChangeSpec.witness_at (enc := enc) (C := Tryd.checked) (os := os) (X := fun w _ => laidMet Tryd.prog laidBits w) false (laidWorld os) #[.int .i64 0, .slice none 0 0, .int .i64 0] 8 rfl (by kernel_rfl) (by kernel_rfl) (by kernel_rfl) (by kernel_rfl) (by kernel_rfl) (laid_met os _)) ?_
  intro W base args ds gs before hval hW _ _ hL _
  exact ld_calls (n := 4) Tryd.func3 (by rw [Tryd.params3]) rfl rfl (fun ds hd => by
    rw [Tryd.params3] at hd
    match ds, hd with
    | [_, _, _], _ => rfl) (by intro t ht; simp at ht; rcases ht with rfl | rfl | rfl <;> kernel_rfl) (by intro t ht; simp at ht; rcases ht with rfl | rfl | rfl <;> exact ⟨by kernel_rfl, of_decide_eq_true (by kernel_rfl)⟩) binds_from hval hW hL

theorem leadBinds_holds : Rows.LeadBindsSaid :=
  OpenClaim.holds_of_wide 3 Tryd.f3 rfl rfl rfl rfl rfl rfl rfl ⟨rfl, rfl, rfl, rfl, rfl⟩ rfl rfl rfl rfl rfl (by kernel_rfl) Tryd.func3 (by kernel_rfl)
    (of_decide_eq_true (by kernel_rfl)) (by unfold Func.isWrapper; first | (rw [if_pos (by decide +kernel)]; kernel_rfl) | (rw [if_neg (by decide +kernel)]; exact ⟨rfl, rfl⟩))
    (fun os started H enc _ => leadBinds_lifted os started H enc)

theorem leadBinds_card_holds : Rows.LeadBindsCardSaid :=
  Claim7.holds_tied_plain_at .later [] [.data, .data] true (true, "473ddc9b05d90b7286816db57755008d5cfd518eaf782ee17a28d2c0f6663092") true
    leadBinds_holds (fun _ h => by cases h) (by kernel_rfl) (fun _ h => by cases h) leadBinds_row_tie rfl ⟨rfl, rfl⟩ (by kernel_rfl) rfl
    (fun f fn hf hfn => by
      obtain rfl : f = 3 := Option.some.inj ((show Tryd.prog.funcNamed "sealchain/sealchainlaw16.LeadBinds" = some 3 by kernel_rfl).symm.trans hf) |>.symm
      obtain rfl : fn = Tryd.f3 := (Option.some.inj (Tryd.func3.symm.trans hfn)).symm
      exact ⟨by kernel_rfl, fun j t ht => by
        rw [Tryd.params3] at ht
        match j, ht with
        | 0, ht =>
          simp at ht; subst ht
          exact (show Tryd.prog.wantsStandIn 3 = false by kernel_rfl)
        | 1, ht =>
          simp at ht; subst ht
          exact (show Tryd.prog.wantsStandIn 22 = false by kernel_rfl)
        | 2, ht =>
          simp at ht; subst ht
          exact (show Tryd.prog.wantsStandIn 3 = false by kernel_rfl)
        | j + 3, ht => simp at ht⟩)
    (by kernel_rfl)
#print axioms leadBinds_card_holds
end Go.Proofs.YtlbgokakghchiaaDoor
