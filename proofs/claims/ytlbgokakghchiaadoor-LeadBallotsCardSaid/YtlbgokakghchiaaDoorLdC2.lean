/- YtlbgokakghchiaaDoorLdC2: texts of one's own, merged: LdC2. -/
import Derived.Test.YtlbgokakghchiaaDoorLdFin
set_option linter.all false
namespace Go.Proofs.YtlbgokakghchiaaDoor
open Go Go.ChangeShapes Go.WideShapes Go.ChangeAt Go.RowKit Go.Sx Go.Sx.Ld Go.Sv
set_option maxRecDepth 1000000

theorem Tryd.own : ownKnob Tryd.prog.godebug = none := by kernel_rfl
theorem Tryd.laidOut : laidOutB Tryd.prog = true := by kernel_rfl
abbrev laidBits : List (String × DataW Unit) := [("math/bits.deBruijn32tab", Rows.laid_math_bits_deBruijn32tab), ("math/bits.deBruijn64tab", Rows.laid_math_bits_deBruijn64tab)]

/-- what the condition gives a walk -/
theorem lies_of_laid {W : World} (h : laidMet Tryd.prog laidBits W) : Lies W := by
  obtain ⟨ps, ⟨g, t, cs, fuel, p, q, _, _, _, _, hr, _⟩, _⟩ := h
  exact (ints_of_laid (g := 1) (t := 177) (e := 5) (k := .u8) (ns := tab) hr (by kernel_rfl) (by kernel_rfl) Tryd.underlying177 Tryd.underlying5 (by kernel_rfl)).1

/-- the settled world, but the two tables are as laid -/
noncomputable def laidWorld (os : Os) : World :=
  let w0 := World.holding Tryd.prog os ⟨#[], #[], []⟩
  { w0 with heap := (w0.heap.modify 0 fun
      | .cells _ t frozen => .cells #[.int .u8 0, .int .u8 1, .int .u8 28, .int .u8 2, .int .u8 29, .int .u8 14, .int .u8 24, .int .u8 3, .int .u8 30, .int .u8 22, .int .u8 20, .int .u8 15, .int .u8 25, .int .u8 17, .int .u8 4, .int .u8 8, .int .u8 31, .int .u8 27, .int .u8 13, .int .u8 23, .int .u8 21, .int .u8 19, .int .u8 16, .int .u8 7, .int .u8 26, .int .u8 12, .int .u8 18, .int .u8 6, .int .u8 11, .int .u8 5, .int .u8 10, .int .u8 9] t frozen
      | o => o).modify 1 fun
      | .cells _ t frozen => .cells ⟨tab.map (.int .u8)⟩ t frozen
      | o => o }
theorem laid_met (os : Os) (args : Array Value) : laidMet Tryd.prog laidBits ((laidWorld os).forCall (fun _ _ => 0) ⟨#[], args, []⟩).memory :=
  laidMet_of_run' 8 (by kernel_rfl) (by kernel_rfl)

theorem sz_of_lies {W : World} (hl : Lies W) : 2 ≤ W.heap.size := by
  have h0 := hl 0 0 rfl
  have : 1 < W.heap.size := by
    unfold World.cell? at h0
    cases hb : W.heap[1]? with
    | none => simp [hb] at h0
    | some o => exact (Array.getElem?_eq_some_iff.1 hb).1
  omega

/-- what is common to all laws of leaders -/
theorem ld_calls {H : Type} {enc : TypeId × Value → H} {f n : Nat} {fn : Func} {ts : List TypeId} {W : World} {base : Nat} {args : Array Value} {ds gs : List (DataW H)} {before : List MemPlace} {s : ChangeSpec} (hfn : Tryd.prog.funcs[f]? = some fn) (hts : fn.params.toList = ts)
    (hres : fn.resultTypes = #[4]) (hv : s.vars = []) (hfnn : ∀ ds : List (DataW H), ds.length = fn.params.size → s.fn H ds = { results := [.lit (.bool true)], args := ds })
    (hpl : ∀ t ∈ ts, plainT Tryd.prog n t = true) (hrd : ∀ t ∈ ts, Tryd.prog.readableRec t = true ∧ t < Tryd.prog.types.size)
    (run : ∀ h xs, Grow (roH objs) h → HasVs Tryd.prog h n ts xs → FW Tryd.prog G ov2 f xs h fun u _ => u = .bool true)
    (hval : ∀ (j : Nat) t v, fn.params[j]? = some t → args[j]? = some v → Value.okWide Tryd.prog W .any base t v)
    (hW : DataW.Whole enc Tryd.prog fn.params.toList s.vars false W args.toList ds gs before) (hL : laidMet Tryd.prog laidBits W) :
    Calls Tryd.prog f args W fun e W' => ∃ v, e = .returned v ∧ s.post enc Tryd.prog fn false true false false W args v W' := by
  have hl := lies_of_laid hL
  have hsz := sz_of_lies hl
  have hW0 := hW
  obtain ⟨p, q, hA, _⟩ := hW
  rw [hts] at hA
  obtain ⟨h', ρ', xs, r1, ro1, g1, _, d1, w1, c1⟩ := bridge_all (G := G) (n := n) ts args.toList ds p hpl hA (fun j t v hj hv => hval j t v (by rw [← Array.getElem?_toList, hts]; exact hj) (by rw [← Array.getElem?_toList]; exact hv)) (roH objs) _ (hl.R hsz) (roH_own objs)
  obtain ⟨m, v, h1, hr, rfl⟩ := run h' xs g1 c1
  have hargs : args = (AV.denL ρ' xs).toArray := by rw [d1]
  have hc := law_of_ro (ok2 W.heap.size m) r1 ro1 w1 hr
  rw [← hargs] at hc
  refine hc.mono fun e W' ⟨he, hk⟩ => ?_
  subst he
  exact ⟨_, rfl, law_post (tb := 4) Tryd.laidOut (by rw [hts]; exact hrd) hres Tryd.underlying4 hv hfnn hW0 hk⟩

theorem ballots_from (h : AHeap) (xs : List AV) (g : Grow (roH objs) h) (hx : HasVs Tryd.prog h 4 [46] xs) : FW Tryd.prog G ov2 4 xs h fun u _ => u = .bool true := by
  match xs, hx with
  | [v], hx =>
    obtain ⟨rows, ids, hs, _, hg⟩ := sl_of (P := Tryd.prog) (A := Int × Int) (enc := enc2) (good := fun r => -9223372036854775808 ≤ r.1 ∧ r.1 ≤ 9223372036854775807 ∧ -9223372036854775808 ≤ r.2 ∧ r.2 ≤ 9223372036854775807) Tryd.underlying46 hx.1 (fun a => by
      show 2 = Tryd.prog.cellsOf 48; kernel_rfl) (fun cs hc => by
      unfold HasC at hc
      rw [Tryd.underlying48] at hc
      obtain ⟨q1, q2, q3, q4, q5⟩ := hc
      have e3 : Tryd.prog.cellsOf 3 = 1 := by kernel_rfl
      rw [e3] at q1 q2 q3 q4 q5
      unfold HasC at q2 q4
      rw [Tryd.underlying3] at q2 q4
      obtain ⟨x, hx, hw⟩ := q2
      obtain ⟨y, hy, hw'⟩ := q4
      refine ⟨(x, y), ?_, ?_⟩
      · have := List.take_append_drop 1 cs
        rw [← this, hx, ← List.take_append_drop 1 (cs.drop 1), hy, q5]
        rfl
      · have := wf_i64 hw
        have := wf_i64 hw'
        omega)
    have e2 : Tryd.prog.cellsOf 48 = 2 := by kernel_rfl
    rw [e2] at hs
    exact ballots_run ld_env (tab_of_grow g) hs hg

theorem leadBallots_lifted (os : Os) (started : os.Started) (H : Type) (enc : TypeId × Value → H) :
    ReturnsInHanded {} Tryd.checked os 4 .any (fun w args => (Rows.leadBallotsSpec.pre enc Tryd.prog Tryd.f4 Rows.leadBallotsRow.domain false w args ∧ laidMet Tryd.prog laidBits w) ∧ sizedMet enc Tryd.prog Tryd.f4 (OpenSpec.ofChange Rows.leadBallotsSpec) false w args)
      (Rows.leadBallotsSpec.post enc Tryd.prog Tryd.f4 false true false false) := by
  refine returnsInHanded_of_change_and (C := Tryd.checked) (X := fun w _ => laidMet Tryd.prog laidBits w) (fun _ _ _ hh h => h.of_heap hh) Tryd.own started (by kernel_rfl) Tryd.func4
    (ChangeSpec.witness_at (enc := enc) (C := Tryd.checked) (os := os) (X := fun w _ => laidMet Tryd.prog laidBits w) false (laidWorld os) #[.slice none 0 0] 8 rfl (by kernel_rfl) (by kernel_rfl) (by kernel_rfl) (by kernel_rfl) (by kernel_rfl) (laid_met os _)) ?_
  intro W base args ds gs before hval hW _ _ hL _
  exact ld_calls (n := 4) Tryd.func4 (by rw [Tryd.params4]) rfl rfl (fun ds hd => by
    rw [Tryd.params4] at hd
    match ds, hd with
    | [_], _ => rfl) (by intro t ht; simp at ht; subst ht; kernel_rfl) (by intro t ht; simp at ht; subst ht; exact ⟨by kernel_rfl, of_decide_eq_true (by kernel_rfl)⟩) ballots_from hval hW hL

theorem leadBallots_holds : Rows.LeadBallotsSaid :=
  OpenClaim.holds_of_wide 4 Tryd.f4 rfl rfl rfl rfl rfl rfl rfl ⟨rfl, rfl, rfl, rfl, rfl⟩ rfl rfl rfl rfl rfl (by kernel_rfl) Tryd.func4 (by kernel_rfl)
    (of_decide_eq_true (by kernel_rfl)) (by unfold Func.isWrapper; first | (rw [if_pos (by decide +kernel)]; kernel_rfl) | (rw [if_neg (by decide +kernel)]; exact ⟨rfl, rfl⟩))
    (fun os started H enc _ => leadBallots_lifted os started H enc)

theorem leadBallots_card_holds : Rows.LeadBallotsCardSaid :=
  Claim7.holds_tied_plain_at .later [] [.data, .data] true (true, "473ddc9b05d90b7286816db57755008d5cfd518eaf782ee17a28d2c0f6663092") true
    leadBallots_holds (fun _ h => by cases h) (by kernel_rfl) (fun _ h => by cases h) leadBallots_row_tie rfl ⟨rfl, rfl⟩ (by kernel_rfl) rfl
    (fun f fn hf hfn => by
      obtain rfl : f = 4 := Option.some.inj ((show Tryd.prog.funcNamed "sealchain/sealchainlaw16.LeadBallots" = some 4 by kernel_rfl).symm.trans hf) |>.symm
      obtain rfl : fn = Tryd.f4 := (Option.some.inj (Tryd.func4.symm.trans hfn)).symm
      exact ⟨by kernel_rfl, fun j t ht => by
        rw [Tryd.params4] at ht
        match j, ht with
        | 0, ht =>
          simp at ht; subst ht
          exact (show Tryd.prog.wantsStandIn 46 = false by kernel_rfl)
        | j + 1, ht => simp at ht⟩)
    (by kernel_rfl)
#print axioms leadBallots_card_holds
end Go.Proofs.YtlbgokakghchiaaDoor
