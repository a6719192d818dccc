/- DERIVED, by an AI agent: a part of the engine 'Sx' (a machine over values and numbered objects, proved sound against the model's calls): no condition. No person has read it. -/
import Derived.Test.YtlbgokakghchiaaDoorSxAl
set_option linter.all false
namespace Go.Sx
open Go Go.RowKit

inductive Cls where
  | rd | eff | al
  deriving DecidableEq, Inhabited

/-- one run of a region's operations in an order of ours -/
structure Can where
  ops : Array Oper
  pi : Nat → Nat
  bef : Nat → Nat → Bool
  cls : Nat → Cls
  v : Nat → AV
  t : Nat → List AV
  h : Nat → AHeap

namespace Can
def n (C : Can) : Nat := C.ops.size
def op (C : Can) (k : Nat) : Oper := C.ops.getD (C.pi k) default
def dst (C : Can) (k : Nat) : Option Tmp := (C.op k).dst
def looks (C : Can) (k : Nat) : List Tmp := (C.op k).looksAt C.ops

/-- the slots where just the places of L were carried out -/
def T (C : Can) (L : Nat → Bool) : Nat → List AV
  | 0 => C.t 0
  | k + 1 => if L k then aput (C.T L k) (C.dst k) (C.v k) else C.T L k

structure Ok (C : Can) (P : Program) (G : Nat → Option Nat) (call : CallF) : Prop where
  piLt : ∀ k, k < C.n → C.pi k < C.n
  piInj : ∀ k m, k < C.n → m < C.n → C.pi k = C.pi m → k = m
  piSurj : ∀ i, i < C.n → ∃ k, k < C.n ∧ C.pi k = i
  befLt : ∀ k m, m < C.n → C.bef k m = true → k < m
  edge : ∀ m, m < C.n → ∀ e, e ∈ (C.op m).after → Region.binds .any e = true → ∃ k, k < C.n ∧ C.pi k = e.on ∧ C.bef k m = true
  just : ∀ k m, m < C.n → C.bef k m = true → ∃ e, e ∈ (C.op m).after ∧ Region.binds .any e = true ∧ ∃ k', k' < C.n ∧ C.pi k' = e.on ∧ (k' = k ∨ C.bef k k' = true)
  names : ∀ k m, k < m → m < C.n → ((∃ d, C.dst k = some d ∧ (d ∈ C.looks m ∨ C.dst m = some d)) ∨ (∃ d, C.dst m = some d ∧ d ∈ C.looks k)) → C.bef k m = true
  effs : ∀ m, m < C.n → C.cls m = .eff → ∀ k, k < m → C.bef k m = true
  nosel : ∀ m, m < C.n → ∀ cs b, (C.op m).op ≠ .select cs b
  tt : ∀ k, k < C.n → C.t (k + 1) = aput (C.t k) (C.dst k) (C.v k)
  step : ∀ k, k < C.n →
    (Region.wanted (C.op k) (ayield C.ops (C.t k)) = false ∧ C.v k = .tuple [] ∧ C.h (k + 1) = C.h k ∧ C.cls k = .rd) ∨
    (Region.wanted (C.op k) (ayield C.ops (C.t k)) = true ∧
      ((C.cls k = .rd ∧ C.h (k + 1) = C.h k ∧ ∀ p, p ≤ k → (p = 0 ∨ C.cls (p - 1) = .eff) → (∀ m, m < C.n → C.cls m = .eff → C.bef m k = true → m < p) → aread P (aev G (C.t k)) (C.h p) (C.op k) = some (C.v k)) ∨
       (C.cls k = .eff ∧ aeff P call (aev G (C.t k)) (C.h k) (C.op k) = some (C.v k, C.h (k + 1))) ∨
       (C.cls k = .al ∧ isAl (C.op k).op = true ∧ awrite P (aev G (C.t k)) (C.h k) (C.op k) = some (C.v k, C.h (k + 1)))))

section
variable {C : Can}

theorem T_congr (x : Nat) {L L' : Nat → Bool} : ∀ m, (∀ k, k < m → C.dst k = some x → L k = L' k) → (C.T L m)[x]? = (C.T L' m)[x]? ∧ (C.T L m).length = (C.T L' m).length
  | 0, _ => ⟨rfl, rfl⟩
  | m + 1, hh => by
    obtain ⟨ih1, ih2⟩ := T_congr x m (fun k hk hd => hh k (by omega) hd)
    simp only [T]
    have hput : ∀ l : List AV, (aput l (C.dst m) (C.v m)).length = l.length := fun l => by unfold aput; cases C.dst m <;> simp
    by_cases hd : C.dst m = some x
    · have hq := hh m (by omega) hd
      rw [hq]
      cases L' m
      · exact ⟨ih1, ih2⟩
      · simp only [if_true]
        refine ⟨?_, by rw [hput, hput]; exact ih2⟩
        simp only [hd, aput, List.getElem?_set, ih2, ih1]
    · have hne : ∀ l : List AV, (aput l (C.dst m) (C.v m))[x]? = l[x]? := fun l => by
        unfold aput
        cases hq : C.dst m with
        | none => rfl
        | some d =>
          have : d ≠ x := fun e => hd (by rw [hq, e])
          simp only [List.getElem?_set_ne this]
      cases L m <;> cases L' m <;> simp only [Bool.false_eq_true, if_false, if_true, hne, hput] <;> exact ⟨ih1, ih2⟩

theorem T_lt {m : Nat} : ∀ n, m ≤ n → C.T (fun k => decide (k < m)) n = C.T (fun _ => true) m
  | 0, hm => by
    have : m = 0 := by omega
    subst this; rfl
  | n + 1, hm => by
    by_cases h0 : m ≤ n
    · have ih := T_lt n h0
      simp only [T]
      rw [if_neg (by simp; omega)]
      exact ih
    · have hmn : m = n + 1 := by omega
      subst hmn
      have key : ∀ j, j ≤ n + 1 → C.T (fun k => decide (k < n + 1)) j = C.T (fun _ => true) j := by
        intro j
        induction j with
        | zero => intro _; rfl
        | succ j ih =>
          intro hj
          simp only [T]
          rw [ih (by omega), if_pos (by simp; omega)]; simp
      exact key _ (Nat.le_refl _)

theorem T_all {P : Program} {G : Nat → Option Nat} {call : CallF} (ok : C.Ok P G call) : ∀ m, m ≤ C.n → C.T (fun _ => true) m = C.t m
  | 0, _ => rfl
  | m + 1, hm => by
    simp only [T, if_true]
    rw [T_all ok m (by omega), ok.tt m (by omega)]

theorem aput_comm (l : List AV) {d e : Option Tmp} (v u : AV) (hne : ∀ x, d = some x → e ≠ some x) : aput (aput l d v) e u = aput (aput l e u) d v := by
  cases d with
  | none => rfl
  | some d =>
    cases e with
    | none => rfl
    | some e =>
      have : d ≠ e := fun q => hne d rfl (by rw [q])
      simp only [aput]
      exact List.set_comm _ _ this

theorem T_put {L L' : Nat → Bool} {m : Nat} (h1 : L m = false) (h2 : L' m = true) (h3 : ∀ k, k ≠ m → L' k = L k) (h4 : ∀ k, m < k → L k = true → ∀ x, C.dst m = some x → C.dst k ≠ some x) :
    ∀ n, m < n → C.T L' n = aput (C.T L n) (C.dst m) (C.v m)
  | 0, hm => by omega
  | n + 1, hm => by
    simp only [T]
    by_cases e : n = m
    · subst e
      have key : ∀ j, j ≤ n → C.T L' j = C.T L j := by
        intro j
        induction j with
        | zero => intro _; rfl
        | succ j ih =>
          intro hj
          simp only [T]
          rw [ih (by omega), h3 j (by omega)]
      rw [key n (Nat.le_refl _), if_pos h2, if_neg (by simp [h1])]
    · have ih := T_put h1 h2 h3 h4 n (by omega)
      rw [h3 n e, ih]
      by_cases hL : L n = true
      · rw [if_pos hL, if_pos hL]
        exact aput_comm _ _ _ (fun x hx => h4 n (by omega) hL x hx)
      · rw [if_neg hL, if_neg hL]

theorem T_ws {S : Nat → Prop} {L : Nat → Bool} (h0 : AV.wsL S (C.t 0)) : ∀ n, (∀ k, k < n → L k = true → (C.v k).ws S) → AV.wsL S (C.T L n)
  | 0, _ => h0
  | n + 1, hh => by
    have ih := T_ws h0 n (fun k hk hL => hh k (by omega) hL)
    simp only [T]
    split
    · rename_i hL
      unfold aput
      cases C.dst n with
      | none => exact ih
      | some d =>
        rw [wsL_iff]
        intro u hu
        rcases List.mem_or_eq_of_mem_set hu with hu | rfl
        · exact (wsL_iff _ _).1 ih u hu
        · exact hh n (by omega) hL
    · exact ih
end
end Can

section
variable {N : Nat} {G : Nat → Option Nat} {ρ ρ' : Env} {h h' : AHeap} {w w' : World} {P : Program}

theorem R.env (r : R N G ρ h w) (he : ∀ i, i < h.n → ρ' i = ρ i) : R N G ρ' h w where
  lt := r.lt
  ws := r.ws
  fits := fun i o hi => Fits.keep (n := below h.n) he (r.lt i o hi) (r.ws i o hi) (fun ob hob => hob) (r.fits i o hi)
  low := fun i o hi h1 => by rw [he i (r.lt i o hi)]; exact r.low i o hi h1
  high := fun i o hi h1 => by rw [he i (r.lt i o hi)]; exact r.high i o hi h1
  apart := fun i j o p hi hj hne h1 h2 => by rw [he i (r.lt i o hi), he j (r.lt j p hj)]; exact r.apart i j o p hi hj hne h1 h2
  base := r.base
  glob := fun g i hg => by
    obtain ⟨h1, h2, h3⟩ := r.glob g i hg
    rw [he i h1]; exact ⟨h1, h2, h3⟩

theorem Owned.env (r : R N G ρ h w) (he : ∀ i, i < h.n → ρ' i = ρ i) {b : Nat} (ho : Owned ρ' h b) : Owned ρ h b := by
  obtain ⟨i, o, hi, h1, h2⟩ := ho
  exact ⟨i, o, hi, h1, by rw [← he i (r.lt i o hi)]; exact h2⟩
end
end Go.Sx
