/- YtlbgokakghchiaaDoorLdCc: texts of one's own, merged: LdCc. -/
import Derived.Test.YtlbgokakghchiaaDoorLdFinB
set_option linter.all false
namespace Go.Proofs.YtlbgokakghchiaaDoor
open Go Go.ChangeShapes Go.WideShapes Go.ChangeAt Go.RowKit Go.Sx Go.Sx.Ld Go.Sv
set_option maxRecDepth 1000000

theorem Tryd.own : ownKnob Tryd.prog.godebug = none := by kernel_rfl
theorem Tryd.laidOut : laidOutB Tryd.prog = true := by kernel_rfl
abbrev laidBits : List (String × DataW Unit) := [("math/bits.deBruijn32tab", Rows.laid_math_bits_deBruijn32tab), ("math/bits.deBruijn64tab", Rows.laid_math_bits_deBruijn64tab)]

/-- what the condition gives a walk -/
theorem lies_of_laid {W : World} (h : laidMet Tryd.prog laidBits W) : Lies W := by
  obtain ⟨ps, ⟨g, t, cs, fuel, p, q, _, _, _, _, hr, _⟩, _⟩ := h
  exact (ints_of_laid (g := 1) (t := 177) (e := 5) (k := .u8) (ns := tab) hr (by kernel_rfl) (by kernel_rfl) Tryd.underlying177 Tryd.underlying5 (by kernel_rfl)).1

/-- the settled world, but the two tables are as laid -/
noncomputable def laidWorld (os : Os) : World :=
  let w0 := World.holding Tryd.prog os ⟨#[], #[], []⟩
  { w0 with heap := (w0.heap.modify 0 fun
      | .cells _ t frozen => .cells #[.int .u8 0, .int .u8 1, .int .u8 28, .int .u8 2, .int .u8 29, .int .u8 14, .int .u8 24, .int .u8 3, .int .u8 30, .int .u8 22, .int .u8 20, .int .u8 15, .int .u8 25, .int .u8 17, .int .u8 4, .int .u8 8, .int .u8 31, .int .u8 27, .int .u8 13, .int .u8 23, .int .u8 21, .int .u8 19, .int .u8 16, .int .u8 7, .int .u8 26, .int .u8 12, .int .u8 18, .int .u8 6, .int .u8 11, .int .u8 5, .int .u8 10, .int .u8 9] t frozen
      | o => o).modify 1 fun
      | .cells _ t frozen => .cells ⟨tab.map (.int .u8)⟩ t frozen
      | o => o }
theorem laid_met (os : Os) (args : Array Value) : laidMet Tryd.prog laidBits ((laidWorld os).forCall (fun _ _ => 0) ⟨#[], args, []⟩).memory :=
  laidMet_of_run' 8 (by kernel_rfl) (by kernel_rfl)

theorem sz_of_lies {W : World} (hl : Lies W) : 2 ≤ W.heap.size := by
  have h0 := hl 0 0 rfl
  have : 1 < W.heap.size := by
    unfold World.cell? at h0
    cases hb : W.heap[1]? with
    | none => simp [hb] at h0
    | some o => exact (Array.getElem?_eq_some_iff.1 hb).1
  omega

/-- what is common to all laws of leaders -/
theorem ld_calls {H : Type} {enc : TypeId × Value → H} {f n : Nat} {fn : Func} {ts : List TypeId} {W : World} {base : Nat} {args : Array Value} {ds gs : List (DataW H)} {before : List MemPlace} {s : ChangeSpec} (hfn : Tryd.prog.funcs[f]? = some fn) (hts : fn.params.toList = ts)
    (hres : fn.resultTypes = #[4]) (hv : s.vars = []) (hfnn : ∀ ds : List (DataW H), ds.length = fn.params.size → s.fn H ds = { results := [.lit (.bool true)], args := ds })
    (hpl : ∀ t ∈ ts, plainT Tryd.prog n t = true) (hrd : ∀ t ∈ ts, Tryd.prog.readableRec t = true ∧ t < Tryd.prog.types.size)
    (run : ∀ h xs, Grow (roH objs) h → HasVs Tryd.prog h n ts xs → FW Tryd.prog G ov2 f xs h fun u _ => u = .bool true)
    (hval : ∀ (j : Nat) t v, fn.params[j]? = some t → args[j]? = some v → Value.okWide Tryd.prog W .any base t v)
    (hW : DataW.Whole enc Tryd.prog fn.params.toList s.vars false W args.toList ds gs before) (hL : laidMet Tryd.prog laidBits W) :
    Calls Tryd.prog f args W fun e W' => ∃ v, e = .returned v ∧ s.post enc Tryd.prog fn false true false false W args v W' := by
  have hl := lies_of_laid hL
  have hsz := sz_of_lies hl
  have hW0 := hW
  obtain ⟨p, q, hA, _⟩ := hW
  rw [hts] at hA
  obtain ⟨h', ρ', xs, r1, ro1, g1, _, d1, w1, c1⟩ := bridge_all (G := G) (n := n) ts args.toList ds p hpl hA (fun j t v hj hv => hval j t v (by rw [← Array.getElem?_toList, hts]; exact hj) (by rw [← Array.getElem?_toList]; exact hv)) (roH objs) _ (hl.R hsz) (roH_own objs)
  obtain ⟨m, v, h1, hr, rfl⟩ := run h' xs g1 c1
  have hargs : args = (AV.denL ρ' xs).toArray := by rw [d1]
  have hc := law_of_ro (ok2 W.heap.size m) r1 ro1 w1 hr
  rw [← hargs] at hc
  refine hc.mono fun e W' ⟨he, hk⟩ => ?_
  subst he
  exact ⟨_, rfl, law_post (tb := 4) Tryd.laidOut (by rw [hts]; exact hrd) hres Tryd.underlying4 hv hfnn hW0 hk⟩

end Go.Proofs.YtlbgokakghchiaaDoor
