/- DERIVED, by an AI agent: a part of the engine 'Sx' (a machine over values and numbered objects, proved sound against the model's calls): no condition. No person has read it. -/
import Derived.Test.YtlbgokakghchiaaDoorSxLaw
import Derived.ProofKit
import Derived.LaidLaws
import Derived.Handed
import Derived.JoinedOf
import Derived.Carry
import Derived.OpenShut
set_option linter.all false
namespace Go.Sx
open Go Go.RowKit Go.ChangeShapes Go.WideShapes

/-- what a listed array of whole numbers holds -/
theorem ints_of_laid {P : Program} {W : World} {name : String} {k : IntKind} {ns : List Int} {rest : List (String × DataW Unit)} {g : Nat} {t e : TypeId} {ps : List MemPlace}
    (h : DataW.LaidVars P W ((name, .agg (ns.map fun x => .lit (.int k x))) :: rest) ps) (hg : P.globalNamed name = some g) (ht : (P.globals[g]?).map (·.type) = some t)
    (hu : P.underlying t = some (.array ns.length e)) (he : P.underlying e = some (.int k)) (hc : P.cellsOf e = 1) :
    (∀ j x, ns[j]? = some x → W.cell? ⟨g, j, none⟩ = some (.int k x)) ∧ ∃ qs, DataW.LaidVars P W rest qs := by
  obtain ⟨g', t', cs, fuel, p, q, hg', ht', hvar, hd, hr, _⟩ := h
  obtain rfl := Option.some.inj (hg.symm.trans hg')
  obtain rfl := Option.some.inj (ht.symm.trans ht')
  refine ⟨?_, q, hr⟩
  obtain ⟨xs, m, _, hx, hlen, hn, hel⟩ := DataW.trod_array hu hd
  obtain ⟨hx1, _⟩ := Prod.mk.inj hx
  simp only [DataW.agg.injEq] at hx1
  intro j x hj
  have hjl := (List.getElem?_eq_some_iff.1 hj).1
  have h1 := hel j hjl
  rw [hc, Nat.mul_one] at h1
  have h2 : (xs.map (·.1))[j]? = some (.lit (.int k x)) := by rw [← hx1, List.getElem?_map, hj]; rfl
  rw [List.getElem?_map] at h2
  cases hxj : xs[j]? with
  | none => rw [hxj] at h2; simp at h2
  | some y =>
    rw [hxj] at h2 h1
    simp only [Option.map_some, Option.some.injEq] at h2
    obtain ⟨s, hcs, hy, _⟩ := DataW.trod_int he h1
    obtain ⟨hs, _⟩ := Prod.mk.inj hy
    rw [World.var?_cell hg hvar j]
    have h3 : s = x := by
      rw [h2] at hs
      simp only [DataW.lit.injEq, Lit.int.injEq, true_and] at hs
      exact hs.symm
    subst h3
    have h4 : ((cs.toList.drop j).take 1)[0]? = some (Value.int k s) := by rw [hcs]; rfl
    rw [List.getElem?_take] at h4
    simp at h4
    simpa using h4

/-- the arguments read as they did -/
theorem trodAll_kept {H : Type} {enc : TypeId × Value → H} {P : Program} (hl : laidOutB P = true) {W W' : World} (hb : Below W.heap.size W W') :
    ∀ {ts : List TypeId} {vs : List Value} {ds : List (DataW H)} {ps : List MemPlace}, (∀ t ∈ ts, P.readableRec t = true ∧ t < P.types.size) →
    DataW.TrodAll enc P W 0 (fun _ => true) true ts vs ds ps → DataW.TrodAll enc P W' 0 (fun b => decide (b < W.heap.size)) true ts vs ds ps
  | [], vs, ds, ps, _, h => by
    obtain ⟨rfl, rfl, rfl⟩ := trodAll_nil h
    exact rfl
  | t :: ts, vs, ds, ps, hr, h => by
    have hlt := DataW.TrodAll.lt h
    obtain ⟨v, vs1, d, ds1, a, b, rfl, rfl, rfl, h1, h2⟩ := trodAll_cons h
    obtain ⟨q1, q2⟩ := hr t (List.mem_cons_self ..)
    exact ⟨a, b, Below.trod hl q1 q2 h1 hb (fun x hx => hlt x (List.mem_append_left _ hx)), trodAll_kept hl hb (fun u hu => hr u (List.mem_cons_of_mem _ hu)) h2, rfl⟩

/-- THE ROW's CONDITION, of a law that is true and leaves memory as it was -/
theorem law_post {H : Type} {enc : TypeId × Value → H} {P : Program} {fn : Func} {s : ChangeSpec} {W W' : World} {args : Array Value} {ds gs : List (DataW H)} {before : List MemPlace} {tb : TypeId}
    (hl : laidOutB P = true) (hr : ∀ t ∈ fn.params.toList, P.readableRec t = true ∧ t < P.types.size) (hres : fn.resultTypes = #[tb]) (hb : P.underlying tb = some .bool) (hv : s.vars = [])
    (hfn : ∀ ds : List (DataW H), ds.length = fn.params.size → s.fn H ds = { results := [.lit (.bool true)], args := ds })
    (hW : DataW.Whole enc P fn.params.toList s.vars false W args.toList ds gs before) (hk : Below W.heap.size W W') :
    s.post enc P fn false true false false W args (.bool true) W' := by
  have hW' := hW
  obtain ⟨p, q, hA, hV, rfl, _⟩ := hW
  rw [hv] at hV
  obtain ⟨rfl, rfl⟩ : gs = [] ∧ q = [] := by
    cases gs with
    | nil => exact ⟨rfl, hV⟩
    | cons g r => exact absurd hV (by intro h; cases h)
  have hlen : ds.length = fn.params.size := by
    have : ∀ {ts : List TypeId} {vs : List Value} {ds : List (DataW H)} {ps : List MemPlace}, DataW.TrodAll enc P W 0 (fun _ => true) true ts vs ds ps → ds.length = ts.length := by
      intro ts
      induction ts with
      | nil => intro vs ds ps h; obtain ⟨_, rfl, _⟩ := trodAll_nil h; rfl
      | cons t ts ih =>
        intro vs ds ps h
        obtain ⟨v, vs1, d, ds1, a, b, rfl, rfl, rfl, h1, h2⟩ := trodAll_cons h
        simp [ih h2]
    rw [this hA]; simp
  have e1 := hfn (ds ++ []) (by simpa using hlen)
  refine ⟨ds, [], _, [], p, [], hW', ?_, ?_, ?_, hk.frame _, fun h => by cases h⟩
  · rw [e1, hres]
    exact trodAll_mk1 (shut_bool hb true)
  · rw [e1, List.append_nil]
    exact trodAll_kept hl hk hr hA
  · rw [e1, hv]; rfl
end Go.Sx
