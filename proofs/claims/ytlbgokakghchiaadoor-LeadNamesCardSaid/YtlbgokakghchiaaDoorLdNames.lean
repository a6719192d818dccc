/- DERIVED, by an AI agent. No person has read it.
WHAT IT SAYS: a leader of masters refuses to be made of the numbers -1 and 3; the greatest ballots and configs are taken, those above them refused; a leader that is none, or was never made, answers so at every call (sealchainlaw16.LeadNames, a closed statement: no input).
CONDITIONS: math/bits.deBruijn32tab and math/bits.deBruijn64tab hold what the program's text lays (tied by the card). The road takes in a range over a function (lead.enoughOf), proved by the kit's laws; all else is run by the kernel on the engine 'Sx', proved sound against the model's calls. -/
import Derived.Test.YtlbgokakghchiaaDoorLdOv
import Derived.Test.YtlbgokakghchiaaDoorCards
import Derived.Test.YtlbgokakghchiaaDoorTie
set_option linter.all false
namespace Go.Proofs.YtlbgokakghchiaaDoor
open Go Go.ChangeShapes Go.WideShapes Go.ChangeAt Go.RowKit Go.Sx Go.Sx.Ld
set_option maxRecDepth 1000000

theorem Tryd.own : ownKnob Tryd.prog.godebug = none := by kernel_rfl
theorem Tryd.laidOut : laidOutB Tryd.prog = true := by kernel_rfl
abbrev laidBits : List (String × DataW Unit) := [("math/bits.deBruijn32tab", Rows.laid_math_bits_deBruijn32tab), ("math/bits.deBruijn64tab", Rows.laid_math_bits_deBruijn64tab)]

/-- what the condition gives a walk -/
theorem lies_of_laid {W : World} (h : laidMet Tryd.prog laidBits W) : Lies W := by
  obtain ⟨ps, ⟨g, t, cs, fuel, p, q, _, _, _, _, hr, _⟩, _⟩ := h
  exact (ints_of_laid (g := 1) (t := 177) (e := 5) (k := .u8) (ns := tab) hr (by kernel_rfl) (by kernel_rfl) Tryd.underlying177 Tryd.underlying5 (by kernel_rfl)).1

/-- the settled world, but the two tables are as laid -/
noncomputable def laidWorld (os : Os) : World :=
  let w0 := World.holding Tryd.prog os ⟨#[], #[], []⟩
  { w0 with heap := (w0.heap.modify 0 fun
      | .cells _ t frozen => .cells #[.int .u8 0, .int .u8 1, .int .u8 28, .int .u8 2, .int .u8 29, .int .u8 14, .int .u8 24, .int .u8 3, .int .u8 30, .int .u8 22, .int .u8 20, .int .u8 15, .int .u8 25, .int .u8 17, .int .u8 4, .int .u8 8, .int .u8 31, .int .u8 27, .int .u8 13, .int .u8 23, .int .u8 21, .int .u8 19, .int .u8 16, .int .u8 7, .int .u8 26, .int .u8 12, .int .u8 18, .int .u8 6, .int .u8 11, .int .u8 5, .int .u8 10, .int .u8 9] t frozen
      | o => o).modify 1 fun
      | .cells _ t frozen => .cells ⟨tab.map (.int .u8)⟩ t frozen
      | o => o }
theorem laid_met (os : Os) (args : Array Value) : laidMet Tryd.prog laidBits ((laidWorld os).forCall (fun _ _ => 0) ⟨#[], args, []⟩).memory :=
  laidMet_of_run' 8 (by kernel_rfl) (by kernel_rfl)

theorem names_run : isT (acall Tryd.prog G ov2 1000 8 [] (roH objs)) = true := by kernel_rfl

theorem leadNames_lifted (os : Os) (started : os.Started) (H : Type) (enc : TypeId × Value → H) :
    ReturnsInHanded {} Tryd.checked os 8 .any (fun w args => (Rows.leadNamesSpec.pre enc Tryd.prog Tryd.f8 Rows.leadNamesRow.domain false w args ∧ laidMet Tryd.prog laidBits w) ∧ sizedMet enc Tryd.prog Tryd.f8 (OpenSpec.ofChange Rows.leadNamesSpec) false w args)
      (Rows.leadNamesSpec.post enc Tryd.prog Tryd.f8 false true false false) := by
  refine returnsInHanded_of_change_and (C := Tryd.checked) (X := fun w _ => laidMet Tryd.prog laidBits w) (fun _ _ _ hh h => h.of_heap hh) Tryd.own started (by kernel_rfl) Tryd.func8
    (ChangeSpec.witness_at (enc := enc) (C := Tryd.checked) (os := os) (X := fun w _ => laidMet Tryd.prog laidBits w) false (laidWorld os) #[] 8 rfl (by kernel_rfl) (by kernel_rfl) (by kernel_rfl) (by kernel_rfl) (by kernel_rfl) (laid_met os _)) ?_
  intro W base args ds gs before hval0 hW hcnd0 _ hL _
  have hl := lies_of_laid hL
  have hsz : 2 ≤ W.heap.size := by
    have h0 := hl 0 0 rfl
    have : 1 < W.heap.size := by
      unfold World.cell? at h0
      cases hb : W.heap[1]? with
      | none => simp [hb] at h0
      | some o => exact (Array.getElem?_eq_some_iff.1 hb).1
    omega
  have hargs : args = #[] := by
    obtain ⟨p, q, hA0, _⟩ := hW
    have hA : DataW.TrodAll enc Tryd.prog W 0 (fun _ => true) true Tryd.f8.params.toList args.toList ds p := hA0
    rw [Tryd.params8] at hA
    obtain ⟨h1, _, _⟩ := trodAll_nil hA
    exact Array.ext' h1
  subst hargs
  obtain ⟨h1, hr⟩ := isT_some names_run
  refine (law_of_run (args := []) (ok2 W.heap.size 1000) (hl.R hsz) trivial hr).mono fun e W' ⟨he, hk⟩ => ?_
  subst he
  refine ⟨_, rfl, law_post (tb := 4) Tryd.laidOut ?_ rfl Tryd.underlying4 rfl ?_ hW hk⟩
  · rw [Tryd.params8]; intro t ht; cases ht
  · intro ds hd
    rw [Tryd.params8] at hd
    match ds, hd with
    | [], _ => rfl

theorem leadNames_holds : Rows.LeadNamesSaid :=
  OpenClaim.holds_of_wide 8 Tryd.f8 rfl rfl rfl rfl rfl rfl rfl ⟨rfl, rfl, rfl, rfl, rfl⟩ rfl rfl rfl rfl rfl (by kernel_rfl) Tryd.func8 (by kernel_rfl)
    (of_decide_eq_true (by kernel_rfl)) (by unfold Func.isWrapper; first | (rw [if_pos (by decide +kernel)]; kernel_rfl) | (rw [if_neg (by decide +kernel)]; exact ⟨rfl, rfl⟩))
    (fun os started H enc _ => leadNames_lifted os started H enc)

theorem leadNames_card_holds : Rows.LeadNamesCardSaid :=
  Claim7.holds_tied_plain_at .later [] [.data, .data] true (true, "473ddc9b05d90b7286816db57755008d5cfd518eaf782ee17a28d2c0f6663092") true
    leadNames_holds (fun _ h => by cases h) (by kernel_rfl) (fun _ h => by cases h) leadNames_row_tie rfl ⟨rfl, rfl⟩ (by kernel_rfl) rfl
    (fun f fn hf hfn => by
      obtain rfl : f = 8 := Option.some.inj ((show Tryd.prog.funcNamed "sealchain/sealchainlaw16.LeadNames" = some 8 by kernel_rfl).symm.trans hf) |>.symm
      obtain rfl : fn = Tryd.f8 := (Option.some.inj (Tryd.func8.symm.trans hfn)).symm
      exact ⟨by kernel_rfl, fun j t ht => by
        rw [Tryd.params8] at ht
        simp at ht⟩)
    (by kernel_rfl)
#print axioms leadNames_card_holds
end Go.Proofs.YtlbgokakghchiaaDoor
