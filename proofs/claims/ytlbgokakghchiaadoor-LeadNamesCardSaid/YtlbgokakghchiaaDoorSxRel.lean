/- DERIVED, by an AI agent: a part of the engine 'Sx' (a machine over values and numbered objects, proved sound against the model's calls): no condition. No person has read it. -/
import Derived.Test.YtlbgokakghchiaaDoorSxBase
set_option linter.all false
namespace Go.Sx
open Go Go.RowKit

def AObj.live : AObj → Bool
  | .dead => false
  | _ => true
def AObj.ro : AObj → Bool
  | .cells _ ro _ => ro
  | _ => false
def AObj.ws (n : Nat → Prop) : AObj → Prop
  | .cells c _ _ => AV.wsL n c
  | .map es => ∀ p, p ∈ es → p.1.ws n ∧ p.2.ws n
  | .chan _ buf => AV.wsL n buf
  | .dead => True
/-- its block is its own, and it is written -/
def AObj.own (o : AObj) : Bool := o.live && !o.ro

theorem AObj.ws_mono {n m : Nat → Prop} (h : ∀ i, n i → m i) : ∀ o : AObj, o.ws n → o.ws m
  | .cells c _ _, hw => wsL_mono h c hw
  | .map _, hw => fun p hp => ⟨Sx.ws_mono h _ (hw p hp).1, Sx.ws_mono h _ (hw p hp).2⟩
  | .chan _ b, hw => wsL_mono h b hw
  | .dead, _ => trivial

def Fits (ρ : Env) (w : World) (i : Nat) : AObj → Prop
  | .cells c true _ => ∀ j v, c[j]? = some v → w.cell? (pAddr ρ i j) = some (v.den ρ)
  | .cells c false esz => ∃ cs E fz, w.heap[(ρ i).b]? = some (.cells cs E fz) ∧ (∀ j v, c[j]? = some v → cs[(ρ i).o + j]? = some (v.den ρ)) ∧
      (ρ i).o + c.length + (ρ i).sl * esz ≤ cs.size ∧ ∀ x, x < cs.size → ¬ (fz.1 ≤ x ∧ x < fz.2)
  | .map es => ∃ ents clk, w.heap[(ρ i).b]? = some (.map ents clk) ∧ ents.toList.map (fun e => (e.key, e.val)) = es.map (fun p => (p.1.den ρ, p.2.den ρ))
  | .chan cap buf => ∃ s r, w.heap[(ρ i).b]? = some (.chan cap (buf.map (AV.den ρ)).toArray false s r false)
  | .dead => True

/-- a block that is owned -/
def Owned (ρ : Env) (h : AHeap) (b : Nat) : Prop := ∃ i o, h.get i = some o ∧ o.own = true ∧ (ρ i).b = b

structure R (N : Nat) (G : Nat → Option Nat) (ρ : Env) (h : AHeap) (w : World) : Prop where
  lt : ∀ i o, h.get i = some o → i < h.n
  ws : ∀ i o, h.get i = some o → o.ws (below h.n)
  fits : ∀ i o, h.get i = some o → Fits ρ w i o
  low : ∀ i o, h.get i = some o → o.ro = true → (ρ i).b < N
  high : ∀ i o, h.get i = some o → o.own = true → N ≤ (ρ i).b
  apart : ∀ i j o p, h.get i = some o → h.get j = some p → i ≠ j → o.own = true → p.own = true → (ρ i).b ≠ (ρ j).b
  base : N ≤ w.heap.size
  glob : ∀ g i, G g = some i → i < h.n ∧ (ρ i).b = g ∧ (ρ i).o = 0

structure Stp (ρ : Env) (h : AHeap) (w : World) (ρ' : Env) (h' : AHeap) (w' : World) : Prop where
  ext : Ext (below h.n) ρ ρ'
  n : h.n ≤ h'.n
  os : w'.os = w.os
  tape : w'.tape = w.tape
  output : w'.output = w.output
  size : w.heap.size ≤ w'.heap.size
  own : ∀ b, Owned ρ' h' b → Owned ρ h b ∨ w.heap.size ≤ b
  keep : ∀ b, b < w.heap.size → ¬ Owned ρ h b → w'.heap[b]? = w.heap[b]?

theorem Stp.refl (ρ : Env) (h : AHeap) (w : World) : Stp ρ h w ρ h w :=
  ⟨Ext.refl _ _, Nat.le_refl _, rfl, rfl, rfl, Nat.le_refl _, fun _ h => .inl h, fun _ _ _ => rfl⟩

theorem Stp.trans {ρ ρ₁ ρ₂ : Env} {h h₁ h₂ : AHeap} {w w₁ w₂ : World} (a : Stp ρ h w ρ₁ h₁ w₁) (b : Stp ρ₁ h₁ w₁ ρ₂ h₂ w₂) : Stp ρ h w ρ₂ h₂ w₂ where
  ext := a.ext.trans a.n b.ext
  n := Nat.le_trans a.n b.n
  os := b.os.trans a.os
  tape := b.tape.trans a.tape
  output := b.output.trans a.output
  size := Nat.le_trans a.size b.size
  own := fun k hk => by
    rcases b.own k hk with h1 | h1
    · exact a.own k h1
    · exact .inr (Nat.le_trans a.size h1)
  keep := fun k hk hn => by
    have h1 : ¬ Owned ρ₁ h₁ k := fun hc => by
      rcases a.own k hc with h2 | h2
      · exact hn h2
      · omega
    rw [b.keep k (Nat.lt_of_lt_of_le hk a.size) h1, a.keep k hk hn]

theorem R.not_owned {N : Nat} {G : Nat → Option Nat} {ρ : Env} {h : AHeap} {w : World} (r : R N G ρ h w) {b : Nat} (hb : b < N) : ¬ Owned ρ h b :=
  fun ⟨i, o, hi, ho, he⟩ => by have := r.high i o hi ho; omega

theorem Stp.below {N : Nat} {G : Nat → Option Nat} {ρ ρ' : Env} {h h' : AHeap} {w w' : World} (r : R N G ρ h w) (s : Stp ρ h w ρ' h' w') : Below N w w' :=
  ⟨s.os, s.tape, s.output, s.size, fun k hk => s.keep k (Nat.lt_of_lt_of_le hk r.base) (r.not_owned hk)⟩

theorem cell?_some {w : World} {a : Addr} {v : Value} (h : w.cell? a = some v) : ∃ ob, w.heap[a.block]? = some ob := by
  unfold World.cell? at h
  cases hb : w.heap[a.block]? with
  | none => simp [hb] at h
  | some ob => exact ⟨ob, rfl⟩

theorem cell?_of_block {w w' : World} {a : Addr} (h : w'.heap[a.block]? = w.heap[a.block]?) : w'.cell? a = w.cell? a := by
  unfold World.cell?; rw [h]

theorem denL_get {ρ : Env} {l : List AV} {j : Nat} {v : AV} (h : l[j]? = some v) : (AV.denL ρ l)[j]? = some (v.den ρ) := by
  rw [denL_map, List.getElem?_map, h]; rfl

theorem wsL_get {n : Nat → Prop} {l : List AV} {j : Nat} {v : AV} (hw : AV.wsL n l) (h : l[j]? = some v) : v.ws n :=
  (wsL_iff n l).1 hw v (List.mem_of_getElem? h)

/-- an object whose block did not change is as it was -/
theorem Fits.keep {n : Nat → Prop} {ρ ρ' : Env} {w w' : World} {i : Nat} {o : AObj} (he : Ext n ρ ρ') (hi : n i) (hw : o.ws n)
    (hb : ∀ ob, w.heap[(ρ i).b]? = some ob → w'.heap[(ρ i).b]? = some ob) (h : Fits ρ w i o) : Fits ρ' w' i o := by
  cases o with
  | cells c ro esz =>
    cases ro with
    | true =>
      intro j v hj
      have h1 := h j v hj
      obtain ⟨ob, hob⟩ := cell?_some h1
      rw [pAddr_ext he hi, den_ext he v (wsL_get hw hj), cell?_of_block (w := w), h1]
      show w'.heap[(ρ i).b]? = w.heap[(ρ i).b]?
      rw [hb ob hob]; exact hob.symm
    | false =>
      obtain ⟨cs, E, fz, h1, h2, h3, h4⟩ := h
      refine ⟨cs, E, fz, ?_, ?_, ?_, h4⟩
      · rw [he i hi]; exact hb _ h1
      · intro j v hj; rw [he i hi, den_ext he v (wsL_get hw hj)]; exact h2 j v hj
      · rw [he i hi]; exact h3
  | map es =>
    obtain ⟨ents, clk, h1, h2⟩ := h
    refine ⟨ents, clk, by rw [he i hi]; exact hb _ h1, ?_⟩
    rw [h2]
    apply List.map_congr_left
    intro p hp
    rw [den_ext he _ (hw p hp).1, den_ext he _ (hw p hp).2]
  | chan cap buf =>
    obtain ⟨s, r, h1⟩ := h
    refine ⟨s, r, ?_⟩
    have e : buf.map (AV.den ρ') = buf.map (AV.den ρ) := List.map_congr_left fun v hv => den_ext he v ((wsL_iff n buf).1 hw v hv)
    rw [he i hi, e]; exact hb _ h1
  | dead => trivial

theorem R.heap_eq {N : Nat} {G : Nat → Option Nat} {ρ : Env} {h : AHeap} {w w' : World} (e : w'.heap = w.heap) (r : R N G ρ h w) : R N G ρ h w' where
  lt := r.lt
  ws := r.ws
  fits := fun i o hi => Fits.keep (Ext.refl _ _) (r.lt i o hi) (r.ws i o hi) (fun ob hob => by rw [e]; exact hob) (r.fits i o hi)
  low := r.low
  high := r.high
  apart := r.apart
  base := by rw [e]; exact r.base
  glob := r.glob

theorem Stp.heap_eq {ρ : Env} {h : AHeap} {w w' : World} (e : w'.heap = w.heap) (e1 : w'.os = w.os) (e2 : w'.tape = w.tape) (e3 : w'.output = w.output) : Stp ρ h w ρ h w' :=
  ⟨Ext.refl _ _, Nat.le_refl _, e1, e2, e3, by rw [e]; exact Nat.le_refl _, fun _ h => .inl h, fun b _ _ => by rw [e]⟩

theorem R.block_lt {N : Nat} {G : Nat → Option Nat} {ρ : Env} {h : AHeap} {w : World} (r : R N G ρ h w) {i : Nat} {o : AObj} (hi : h.get i = some o) (ho : o.own = true) : (ρ i).b < w.heap.size := by
  have hf := r.fits i o hi
  cases o with
  | cells c ro esz =>
    cases ro with
    | true => simp [AObj.own, AObj.live, AObj.ro] at ho
    | false =>
      obtain ⟨cs, E, fz, h1, _⟩ := hf
      exact (Array.getElem?_eq_some_iff.1 h1).1
  | map es => obtain ⟨ents, clk, h1, _⟩ := hf; exact (Array.getElem?_eq_some_iff.1 h1).1
  | chan cap buf => obtain ⟨s, r', h1⟩ := hf; exact (Array.getElem?_eq_some_iff.1 h1).1
  | dead => simp [AObj.own, AObj.live] at ho

def upd (ρ : Env) (i : Nat) (p : Place) : Env := fun j => if j = i then p else ρ j
theorem upd_self (ρ : Env) (i : Nat) (p : Place) : upd ρ i p i = p := if_pos rfl
theorem upd_ne (ρ : Env) {i j : Nat} (p : Place) (h : j ≠ i) : upd ρ i p j = ρ j := if_neg h
theorem Ext.upd (ρ : Env) (n : Nat) (p : Place) : Ext (below n) ρ (upd ρ n p) := fun i hi => upd_ne ρ p (Nat.ne_of_lt hi)

/-- a new block -/
theorem R.alloc {N : Nat} {G : Nat → Option Nat} {ρ : Env} {h : AHeap} {w w' : World} (r : R N G ρ h w) {o : AObj} {ob : Obj} (sl : Nat)
    (hw : w'.heap = w.heap.push ob) (e1 : w'.os = w.os) (e2 : w'.tape = w.tape) (e3 : w'.output = w.output)
    (hws : o.ws (below h.n)) (hro : o.ro = false)
    (hf : Fits (upd ρ h.n ⟨w.heap.size, 0, sl⟩) w' h.n o) :
    R N G (upd ρ h.n ⟨w.heap.size, 0, sl⟩) (h.alloc o) w' ∧ Stp ρ h w (upd ρ h.n ⟨w.heap.size, 0, sl⟩) (h.alloc o) w' := by
  have hext := Ext.upd ρ h.n ⟨w.heap.size, 0, sl⟩
  have hold : ∀ b, b < w.heap.size → w'.heap[b]? = w.heap[b]? := fun b hb => by rw [hw, Array.getElem?_push, if_neg (by omega)]
  have hget : ∀ i o', (h.alloc o).get i = some o' → (i = h.n ∧ o' = o) ∨ (i ≠ h.n ∧ h.get i = some o') := fun i o' hi => by
    by_cases e : i = h.n
    · subst e; rw [AHeap.get_alloc_self] at hi; exact .inl ⟨rfl, (Option.some.inj hi).symm⟩
    · rw [AHeap.get_alloc_ne _ _ e] at hi; exact .inr ⟨e, hi⟩
  constructor
  · refine ⟨?_, ?_, ?_, ?_, ?_, ?_, ?_, ?_⟩
    · intro i o' hi
      rcases hget i o' hi with ⟨rfl, rfl⟩ | ⟨_, hi⟩
      · exact Nat.lt_succ_self _
      · exact Nat.lt_succ_of_lt (r.lt i o' hi)
    · intro i o' hi
      rcases hget i o' hi with ⟨rfl, rfl⟩ | ⟨_, hi⟩
      · exact AObj.ws_mono (fun _ hi => Nat.lt_succ_of_lt hi) _ hws
      · exact AObj.ws_mono (fun _ hi => Nat.lt_succ_of_lt hi) _ (r.ws i o' hi)
    · intro i o' hi
      rcases hget i o' hi with ⟨rfl, rfl⟩ | ⟨_, hi⟩
      · exact hf
      · refine Fits.keep hext (r.lt i o' hi) (r.ws i o' hi) (fun ob' hob => ?_) (r.fits i o' hi)
        rw [hold _ (Array.getElem?_eq_some_iff.1 hob).1]; exact hob
    · intro i o' hi h1
      rcases hget i o' hi with ⟨rfl, rfl⟩ | ⟨he, hi⟩
      · rw [hro] at h1; cases h1
      · rw [upd_ne _ _ he]; exact r.low i o' hi h1
    · intro i o' hi h1
      rcases hget i o' hi with ⟨rfl, rfl⟩ | ⟨he, hi⟩
      · rw [upd_self]; exact r.base
      · rw [upd_ne _ _ he]; exact r.high i o' hi h1
    · intro i j o' p hi hj hne h1 h2
      rcases hget i o' hi with ⟨ei, _⟩ | ⟨he, hi'⟩
      · rcases hget j p hj with ⟨ej, _⟩ | ⟨he', hj'⟩
        · exact absurd (ei.trans ej.symm) hne
        · rw [ei, upd_self, upd_ne _ _ he']
          have := r.block_lt hj' h2
          show w.heap.size ≠ _
          omega
      · rcases hget j p hj with ⟨ej, _⟩ | ⟨he', hj'⟩
        · rw [ej, upd_self, upd_ne _ _ he]
          have := r.block_lt hi' h1
          show _ ≠ w.heap.size
          omega
        · rw [upd_ne _ _ he, upd_ne _ _ he']; exact r.apart i j o' p hi' hj' hne h1 h2
    · have := r.base; rw [hw, Array.size_push]; omega
    · intro g i hg
      obtain ⟨h1, h2, h3⟩ := r.glob g i hg
      rw [upd_ne _ _ (Nat.ne_of_lt h1)]
      exact ⟨Nat.lt_succ_of_lt h1, h2, h3⟩
  · refine ⟨hext, Nat.le_succ _, e1, e2, e3, by rw [hw, Array.size_push]; omega, ?_, fun b hb _ => hold b hb⟩
    rintro b ⟨i, o', hi, h1, h2⟩
    rcases hget i o' hi with ⟨rfl, rfl⟩ | ⟨he, hi⟩
    · rw [upd_self] at h2; exact .inr (by rw [← h2]; exact Nat.le_refl _)
    · rw [upd_ne _ _ he] at h2; exact .inl ⟨i, o', hi, h1, h2⟩

/-- one owned object is changed, in its own block -/
theorem R.set {N : Nat} {G : Nat → Option Nat} {ρ : Env} {h : AHeap} {w w' : World} (r : R N G ρ h w) {i : Nat} {o o' : AObj} (hi : h.get i = some o) (ho : o.own = true)
    (hro : o'.ro = false) (hws : o'.ws (below h.n))
    (hk : ∀ b, b ≠ (ρ i).b → w'.heap[b]? = w.heap[b]?) (hs : w'.heap.size = w.heap.size) (e1 : w'.os = w.os) (e2 : w'.tape = w.tape) (e3 : w'.output = w.output)
    (hf : Fits ρ w' i o') : R N G ρ (h.set i o') w' ∧ Stp ρ h w ρ (h.set i o') w' := by
  have hget : ∀ j q, (h.set i o').get j = some q → (j = i ∧ q = o') ∨ (j ≠ i ∧ h.get j = some q) := fun j q hj => by
    by_cases e : j = i
    · subst e; rw [AHeap.get_set_self] at hj; exact .inl ⟨rfl, (Option.some.inj hj).symm⟩
    · rw [AHeap.get_set_ne _ _ e] at hj; exact .inr ⟨e, hj⟩
  constructor
  · refine ⟨?_, ?_, ?_, ?_, ?_, ?_, by rw [hs]; exact r.base, r.glob⟩
    · intro j q hj
      rcases hget j q hj with ⟨rfl, rfl⟩ | ⟨_, hj⟩
      · exact r.lt _ _ hi
      · exact r.lt j q hj
    · intro j q hj
      rcases hget j q hj with ⟨rfl, rfl⟩ | ⟨_, hj⟩
      · exact hws
      · exact r.ws j q hj
    · intro j q hj
      rcases hget j q hj with ⟨rfl, rfl⟩ | ⟨he, hj⟩
      · exact hf
      · have hkeep : (ρ j).b ≠ (ρ i).b → Fits ρ w' j q := fun hb =>
          Fits.keep (Ext.refl _ _) (r.lt j q hj) (r.ws j q hj) (fun ob hob => by rw [hk _ hb]; exact hob) (r.fits j q hj)
        by_cases hq : q.own = true
        · exact hkeep (r.apart j i q o hj hi he hq ho)
        · cases q with
          | dead => trivial
          | cells c ro esz =>
            cases ro with
            | false => simp [AObj.own, AObj.live, AObj.ro] at hq
            | true =>
              have h1 := r.low j _ hj rfl
              have h2 := r.high i o hi ho
              exact hkeep (by omega)
          | map es => simp [AObj.own, AObj.live, AObj.ro] at hq
          | chan cap buf => simp [AObj.own, AObj.live, AObj.ro] at hq
    · intro j q hj h1
      rcases hget j q hj with ⟨rfl, rfl⟩ | ⟨_, hj⟩
      · rw [hro] at h1; cases h1
      · exact r.low j q hj h1
    · intro j q hj h1
      rcases hget j q hj with ⟨rfl, rfl⟩ | ⟨_, hj⟩
      · exact r.high _ o hi ho
      · exact r.high j q hj h1
    · intro j k q p hj hk' hne h1 h2
      rcases hget j q hj with ⟨ej, _⟩ | ⟨he, hj'⟩
      · rcases hget k p hk' with ⟨ek, _⟩ | ⟨he', hk2⟩
        · exact absurd (ej.trans ek.symm) hne
        · rw [ej]; exact r.apart i k o p hi hk2 (fun e => he' e.symm) ho h2
      · rcases hget k p hk' with ⟨ek, _⟩ | ⟨he', hk2⟩
        · rw [ek]; exact r.apart j i q o hj' hi he h1 ho
        · exact r.apart j k q p hj' hk2 hne h1 h2
  · refine ⟨Ext.refl _ _, Nat.le_refl _, e1, e2, e3, by rw [hs]; exact Nat.le_refl _, ?_, ?_⟩
    · rintro b ⟨j, q, hj, h1, h2⟩
      rcases hget j q hj with ⟨rfl, rfl⟩ | ⟨_, hj⟩
      · exact .inl ⟨_, o, hi, ho, h2⟩
      · exact .inl ⟨j, q, hj, h1, h2⟩
    · intro b _ hn
      exact hk b fun e => hn ⟨i, o, hi, ho, e.symm⟩
end Go.Sx
