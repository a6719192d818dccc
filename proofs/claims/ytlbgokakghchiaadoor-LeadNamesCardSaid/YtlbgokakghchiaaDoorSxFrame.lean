/- DERIVED, by an AI agent: a part of the engine 'Sx' (a machine over values and numbered objects, proved sound against the model's calls): no condition. No person has read it. -/
import Derived.Test.YtlbgokakghchiaaDoorSxWopOk3
set_option linter.all false
namespace Go.Sx
open Go Go.RowKit

section
variable {N : Nat} {G : Nat → Option Nat} {ρ ρ' : Env} {h h' hb hin ho hp : AHeap} {w w' : World} {P : Program}

theorem R.congr (r : R N G ρ h w) (hn : h'.n = h.n) (hg : ∀ i, h'.get i = h.get i) : R N G ρ h' w where
  lt := fun i o hi => by rw [hn]; exact r.lt i o (by rw [← hg]; exact hi)
  ws := fun i o hi => by rw [hn]; exact r.ws i o (by rw [← hg]; exact hi)
  fits := fun i o hi => r.fits i o (by rw [← hg]; exact hi)
  low := fun i o hi => r.low i o (by rw [← hg]; exact hi)
  high := fun i o hi => r.high i o (by rw [← hg]; exact hi)
  apart := fun i j o p hi hj => r.apart i j o p (by rw [← hg]; exact hi) (by rw [← hg]; exact hj)
  base := r.base
  glob := fun g i hq => by rw [hn]; exact r.glob g i hq

/-- objects forgotten -/
theorem R.forget (r : R N G ρ h w) (hn : h'.n = h.n) (hg : ∀ i, h'.get i = h.get i ∨ ((h.get i).isSome = true ∧ h'.get i = some .dead)) : R N G ρ h' w := by
  have key : ∀ i o, h'.get i = some o → h.get i = some o ∨ (o = .dead ∧ ∃ q, h.get i = some q) := fun i o hi => by
    rcases hg i with e | ⟨e1, e2⟩
    · exact .inl (by rw [← e]; exact hi)
    · rw [e2] at hi; cases hi
      exact .inr ⟨rfl, Option.isSome_iff_exists.1 e1⟩
  refine ⟨?_, ?_, ?_, ?_, ?_, ?_, r.base, fun g i hq => by rw [hn]; exact r.glob g i hq⟩
  · intro i o hi
    rw [hn]
    rcases key i o hi with h1 | ⟨_, q, hq⟩
    · exact r.lt i o h1
    · exact r.lt i q hq
  · intro i o hi
    rw [hn]
    rcases key i o hi with h1 | ⟨rfl, _⟩
    · exact r.ws i o h1
    · trivial
  · intro i o hi
    rcases key i o hi with h1 | ⟨rfl, _⟩
    · exact r.fits i o h1
    · trivial
  · intro i o hi h2
    rcases key i o hi with h1 | ⟨rfl, _⟩
    · exact r.low i o h1 h2
    · cases h2
  · intro i o hi h2
    rcases key i o hi with h1 | ⟨rfl, _⟩
    · exact r.high i o h1 h2
    · cases h2
  · intro i j o p hi hj hne h2 h3
    rcases key i o hi with h1 | ⟨rfl, _⟩
    · rcases key j p hj with h4 | ⟨rfl, _⟩
      · exact r.apart i j o p h1 h4 hne h2 h3
      · cases h3
    · cases h2

/-- THE FRAME: what was forgotten during a step is there behind it as it was -/
theorem R.frame (X : Nat → Prop) (r : R N G ρ hb w) (hn : hin.n = hb.n) (h1 : ∀ i, X i → hin.get i = some .dead) (h2 : ∀ i, ¬ X i → hin.get i = hb.get i)
    (h5 : ∀ i, X i → ∃ o, hb.get i = some o ∧ o.ro = false)
    (r' : R N G ρ' ho w') (s : Stp ρ hin w ρ' ho w') (h3 : ∀ i, X i → ho.get i = some .dead) (hpn : hp.n = ho.n)
    (h4 : ∀ i, X i → hp.get i = hb.get i) (h6 : ∀ i, ¬ X i → hp.get i = ho.get i) : R N G ρ' hp w' ∧ Stp ρ hb w ρ' hp w' := by
  have hlt : ∀ i, X i → i < hb.n := fun i hx => by obtain ⟨o, ho', _⟩ := h5 i hx; exact r.lt i o ho'
  have hnle : hb.n ≤ ho.n := by rw [← hn]; exact s.n
  -- blocks of the forgotten ones are nobody's
  have hfree : ∀ i o, X i → hb.get i = some o → o.own = true → ¬ Owned ρ hin (ρ i).b := by
    rintro i o hx hi hown ⟨j, q, hj, hq, he⟩
    by_cases hxj : X j
    · rw [h1 j hxj] at hj; cases hj; cases hq
    · rw [h2 j hxj] at hj
      exact r.apart j i q o hj hi (fun e => hxj (e ▸ hx)) hq hown he
  have hsame : ∀ i o, X i → hb.get i = some o → o.own = true → w'.heap[(ρ i).b]? = w.heap[(ρ i).b]? := fun i o hx hi hown =>
    s.keep _ (r.block_lt hi hown) (hfree i o hx hi hown)
  have hρ : ∀ i, X i → ρ' i = ρ i := fun i hx => s.ext i (by rw [hn]; exact hlt i hx)
  have hext : Ext (below hb.n) ρ ρ' := by rw [← hn]; exact s.ext
  have key : ∀ i o, hp.get i = some o → (X i ∧ hb.get i = some o) ∨ (¬ X i ∧ ho.get i = some o) := fun i o hi => by
    by_cases hx : X i
    · exact .inl ⟨hx, by rw [← h4 i hx]; exact hi⟩
    · exact .inr ⟨hx, by rw [← h6 i hx]; exact hi⟩
  have hro : ∀ i o, X i → hb.get i = some o → o.ro = false := fun i o hx hi => by
    obtain ⟨q, hq, hr⟩ := h5 i hx
    rw [hi] at hq; cases hq; exact hr
  have hnot : ∀ i o j q, X i → hb.get i = some o → o.own = true → ho.get j = some q → q.own = true → (ρ i).b ≠ (ρ' j).b := by
    intro i o j q hx hi hown hj hq he
    rcases s.own _ ⟨j, q, hj, hq, rfl⟩ with h7 | h7
    · rw [← he] at h7; exact hfree i o hx hi hown h7
    · have := r.block_lt hi hown; omega
  constructor
  · refine ⟨?_, ?_, ?_, ?_, ?_, ?_, r'.base, fun g i hq => by rw [hpn]; exact r'.glob g i hq⟩
    · intro i o hi
      rw [hpn]
      rcases key i o hi with ⟨hx, hi⟩ | ⟨_, hi⟩
      · exact Nat.lt_of_lt_of_le (r.lt i o hi) hnle
      · exact r'.lt i o hi
    · intro i o hi
      rw [hpn]
      rcases key i o hi with ⟨hx, hi⟩ | ⟨_, hi⟩
      · exact AObj.ws_mono (fun _ hi => Nat.lt_of_lt_of_le hi hnle) _ (r.ws i o hi)
      · exact r'.ws i o hi
    · intro i o hi
      rcases key i o hi with ⟨hx, hi⟩ | ⟨_, hi⟩
      · by_cases hd : o.own = true
        · exact Fits.keep hext (r.lt i o hi) (r.ws i o hi) (fun ob hob => by rw [hsame i o hx hi hd]; exact hob) (r.fits i o hi)
        · have := hro i o hx hi
          cases o with
          | dead => trivial
          | cells c ro esz => simp [AObj.own, AObj.live, this] at hd
          | map es => simp [AObj.own, AObj.live, AObj.ro] at hd
          | chan cap buf => simp [AObj.own, AObj.live, AObj.ro] at hd
      · exact r'.fits i o hi
    · intro i o hi h7
      rcases key i o hi with ⟨hx, hi⟩ | ⟨_, hi⟩
      · rw [hro i o hx hi] at h7; cases h7
      · exact r'.low i o hi h7
    · intro i o hi h7
      rcases key i o hi with ⟨hx, hi⟩ | ⟨_, hi⟩
      · rw [hρ i hx]; exact r.high i o hi h7
      · exact r'.high i o hi h7
    · intro i j o p hi hj hne h7 h8
      rcases key i o hi with ⟨hx, hi⟩ | ⟨_, hi⟩
      · rcases key j p hj with ⟨hxj, hj⟩ | ⟨_, hj⟩
        · rw [hρ i hx, hρ j hxj]; exact r.apart i j o p hi hj hne h7 h8
        · rw [hρ i hx]; exact hnot i o j p hx hi h7 hj h8
      · rcases key j p hj with ⟨hxj, hj⟩ | ⟨_, hj⟩
        · rw [hρ j hxj]; exact fun e => hnot j p i o hxj hj h8 hi h7 e.symm
        · exact r'.apart i j o p hi hj hne h7 h8
  · refine ⟨hext, by rw [hpn]; exact hnle, s.os, s.tape, s.output, s.size, ?_, ?_⟩
    · rintro b ⟨i, o, hi, hown, he⟩
      rcases key i o hi with ⟨hx, hi⟩ | ⟨_, hi⟩
      · exact .inl ⟨i, o, hi, hown, by rw [← hρ i hx]; exact he⟩
      · rcases s.own b ⟨i, o, hi, hown, he⟩ with ⟨j, q, hj, hq, hje⟩ | h7
        · by_cases hxj : X j
          · rw [h1 j hxj] at hj; cases hj; cases hq
          · rw [h2 j hxj] at hj; exact .inl ⟨j, q, hj, hq, hje⟩
        · exact .inr h7
    · intro b hb' hnown
      refine s.keep b hb' ?_
      rintro ⟨j, q, hj, hq, hje⟩
      by_cases hxj : X j
      · rw [h1 j hxj] at hj; cases hj; cases hq
      · rw [h2 j hxj] at hj; exact hnown ⟨j, q, hj, hq, hje⟩

end
end Go.Sx
