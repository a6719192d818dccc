/- DERIVED, by an AI agent: a part of the engine 'Sx' (a machine over values and numbered objects, proved sound against the model's calls): no condition. No person has read it. -/
import Derived.Test.YtlbgokakghchiaaDoorSxCan
set_option linter.all false
namespace Go.Sx
open Go Go.RowKit
namespace Can

/-- the ids that may be named now -/
def Sp (C : Can) (L : Nat → Bool) (p : Nat) : Nat → Prop :=
  fun x => x < (C.h p).n ∨ ∃ k, p ≤ k ∧ k < C.n ∧ C.cls k = .al ∧ L k = true ∧ x = (C.h k).n

structure Inv (C : Can) (N : Nat) (G : Nat → Option Nat) (ρ0 : Env) (w0 : World) (L : Nat → Bool) (a : Act) (w : World) (p : Nat) (ρ : Env) : Prop where
  pLe : p ≤ C.n
  w0N : N ≤ w0.heap.size
  start : p = 0 ∨ C.cls (p - 1) = .eff
  eff : ∀ k, k < C.n → C.cls k = .eff → (L k = true ↔ k < p)
  pre : ∀ k, k < p → L k = true
  closed : ∀ k m, m < C.n → C.bef k m = true → L m = true → L k = true
  r : R N G ρ (C.h p) w
  stp : Stp ρ0 (C.h 0) w0 ρ (C.h p) w
  tmps : a.tmps = (AV.denL ρ (C.T L C.n)).toArray
  defers : a.defers = []
  vws : ∀ k, k < C.n → L k = true → (C.v k).ws (C.Sp L p) ∧ (C.v k).ws (below (C.h (k + 1)).n)
  pend : ∀ k, p ≤ k → k < C.n → C.cls k = .al → L k = true → ∃ cs esz E, C.h (k + 1) = (C.h k).alloc (.cells cs false esz) ∧
    w.heap[(ρ (C.h k).n).b]? = some (.cells (AV.denL ρ cs).toArray E) ∧ (ρ (C.h k).n).o = 0 ∧ (ρ (C.h k).n).sl = 0 ∧ w0.heap.size ≤ (ρ (C.h k).n).b ∧
    ¬ Owned ρ (C.h p) (ρ (C.h k).n).b ∧ AV.wsL (C.Sp L p) cs ∧ AV.wsL (below (C.h k).n) cs
  pdist : ∀ k m, p ≤ k → k < C.n → C.cls k = .al → L k = true → p ≤ m → m < C.n → C.cls m = .al → L m = true → k ≠ m → (ρ (C.h k).n).b ≠ (ρ (C.h m).n).b
  out : ∀ k, C.n ≤ k → L k = false
  t0ws : AV.wsL (below (C.h 0).n) (C.t 0)

section
variable {C : Can} {N : Nat} {G : Nat → Option Nat} {P : Program} {call : CallF} {ρ0 ρ : Env} {w0 w : World} {L : Nat → Bool} {a : Act} {p : Nat}

theorem mono1 (hc : CallOk P N G call) (ok : C.Ok P G call) {k : Nat} (hk : k < C.n) : (C.h k).n ≤ (C.h (k + 1)).n := by
  rcases ok.step k hk with ⟨_, _, h3, _⟩ | ⟨_, ⟨_, h3, _⟩ | ⟨_, h3⟩ | ⟨_, _, h3⟩⟩
  · rw [h3]; exact Nat.le_refl _
  · rw [h3]; exact Nat.le_refl _
  · exact aeff_mono hc h3
  · exact awrite_mono h3

theorem mono (hc : CallOk P N G call) (ok : C.Ok P G call) {k : Nat} : ∀ {m : Nat}, k ≤ m → m ≤ C.n → (C.h k).n ≤ (C.h m).n
  | 0, h1, _ => by have : k = 0 := by omega
                   subst this; exact Nat.le_refl _
  | m + 1, h1, h2 => by
    by_cases e : k = m + 1
    · subst e; exact Nat.le_refl _
    · exact Nat.le_trans (mono hc ok (by omega) (by omega)) (mono1 hc ok (by omega))

theorem al_n {e : Operand → Option AV} {h h' : AHeap} {o : Oper} {v : AV} (ha : isAl o.op = true) (hs : awrite P e h o = some (v, h')) : h'.n = h.n + 1 := by
  unfold awrite at hs
  obtain ⟨dst, op, type, pos, after, guard⟩ := o
  cases op <;> simp only [isAl, Bool.false_eq_true] at ha <;> simp only at hs
  · split at hs
    · simp only [Option.some.injEq, Prod.mk.injEq] at hs; rw [← hs.2]; rfl
    · cases hs
  · split at hs
    · simp only [Option.some.injEq, Prod.mk.injEq] at hs; rw [← hs.2]; rfl
    · cases hs
  · split at hs
    · unfold abuildSlice at hs
      repeat' split at hs
      all_goals first | (cases hs; done) | (simp only [Option.some.injEq, Prod.mk.injEq] at hs; rw [← hs.2]; rfl)
    · cases hs

theorem al_lt (hc : CallOk P N G call) (ok : C.Ok P G call) {k : Nat} (hk : k < C.n) (ha : C.cls k = .al) : (C.h k).n < (C.h (k + 1)).n := by
  rcases ok.step k hk with ⟨_, _, _, h4⟩ | ⟨_, ⟨h4, _⟩ | ⟨h4, _⟩ | ⟨_, h2, h3⟩⟩
  · rw [ha] at h4; cases h4
  · rw [ha] at h4; cases h4
  · rw [ha] at h4; cases h4
  · rw [al_n h2 h3]; exact Nat.lt_succ_self _

theorem Inv.Tws (I : Inv C N G ρ0 w0 L a w p ρ) : AV.wsL (C.Sp L p) (C.T L C.n) :=
  T_ws (wsL_mono (fun _ hx => .inl (Nat.lt_of_lt_of_le hx I.stp.n)) _ I.t0ws) C.n (fun k hk hL => (I.vws k hk hL).1)

/-- what came up is absorbed, in our order -/
theorem absorb (hc : CallOk P N G call) (ok : C.Ok P G call) (I : Inv C N G ρ0 w0 L a w p ρ) : ∀ q, p ≤ q → q ≤ C.n → (∀ k, p ≤ k → k < q → L k = true) →
    R N G ρ (C.h q) w ∧ Stp ρ0 (C.h 0) w0 ρ (C.h q) w ∧ (∀ b, Owned ρ (C.h q) b → Owned ρ (C.h p) b ∨ ∃ k, p ≤ k ∧ k < q ∧ C.cls k = .al ∧ b = (ρ (C.h k).n).b)
  | 0, h1, _, _ => by
    have : p = 0 := by omega
    subst this
    exact ⟨I.r, I.stp, fun b hb => .inl hb⟩
  | q + 1, h1, h2, h3 => by
    by_cases e : p = q + 1
    · subst e
      exact ⟨I.r, I.stp, fun b hb => .inl hb⟩
    · obtain ⟨ih1, ih2, ih3⟩ := absorb hc ok I q (by omega) (by omega) (fun k hk1 hk2 => h3 k hk1 (by omega))
      have hL := h3 q (by omega) (by omega)
      have keep : C.h (q + 1) = C.h q → _ := fun hq => (⟨by rw [hq]; exact ih1, by rw [hq]; exact ih2, fun b hb => by
        rw [hq] at hb
        rcases ih3 b hb with h | ⟨k, k1, k2, k3⟩
        · exact .inl h
        · exact .inr ⟨k, k1, by omega, k3⟩⟩ : R N G ρ (C.h (q + 1)) w ∧ Stp ρ0 (C.h 0) w0 ρ (C.h (q + 1)) w ∧ (∀ b, Owned ρ (C.h (q + 1)) b → Owned ρ (C.h p) b ∨ ∃ k, p ≤ k ∧ k < q + 1 ∧ C.cls k = .al ∧ b = (ρ (C.h k).n).b))
      rcases ok.step q (by omega) with ⟨_, _, hq, _⟩ | ⟨_, ⟨_, hq, _⟩ | ⟨hcl, _⟩ | ⟨hcl, _, _⟩⟩
      · exact keep hq
      · exact keep hq
      · have := (I.eff q (by omega) hcl).1 hL; omega
      · obtain ⟨cs, esz, E, g1, g2, g3, g4, g5, g6, g7, g8⟩ := I.pend q (by omega) (by omega) hcl hL
        have hfree : ¬ Owned ρ (C.h q) (ρ (C.h q).n).b := fun ho => by
          rcases ih3 _ ho with h | ⟨k, k1, k2, k3, k4⟩
          · exact g6 h
          · exact I.pdist q k (by omega) (by omega) hcl hL k1 (by omega) k3 (h3 k k1 (by omega)) (by omega) k4
        have hu : upd ρ (C.h q).n (ρ (C.h q).n) = ρ := by
          funext j; unfold upd; split
          · rename_i ej; rw [ej]
          · rfl
        have hN : N ≤ (ρ (C.h q).n).b := Nat.le_trans I.w0N g5
        have hfit : Fits (upd ρ (C.h q).n (ρ (C.h q).n)) w (C.h q).n (.cells cs false esz) := by
          rw [hu]
          refine ⟨_, E, (0, 0), g2, ?_, ?_, ?_⟩
          · intro j v hj
            rw [g3, Nat.zero_add]
            simpa using denL_get (ρ := ρ) hj
          · rw [g3, g4]; simp [denL_map]
          · intro x _ hx; omega
        have had := ih1.adopt (w' := w) (o := .cells cs false esz) (ρ (C.h q).n) hN hfree (fun _ _ => rfl) rfl g8 rfl hfit
        rw [hu, ← g1] at had
        refine ⟨had, ?_, ?_⟩
        · refine ⟨ih2.ext, Nat.le_trans ih2.n (mono1 hc ok (by omega)), ih2.os, ih2.tape, ih2.output, ih2.size, ?_, ih2.keep⟩
          rintro b ⟨i, o, hi, ho, hb⟩
          rw [g1] at hi
          by_cases ei : i = (C.h q).n
          · subst ei; rw [← hb]; exact .inr g5
          · rw [AHeap.get_alloc_ne _ _ ei] at hi
            exact ih2.own b ⟨i, o, hi, ho, hb⟩
        · rintro b ⟨i, o, hi, ho, hb⟩
          rw [g1] at hi
          by_cases ei : i = (C.h q).n
          · subst ei; exact .inr ⟨q, by omega, by omega, hcl, hb.symm⟩
          · rw [AHeap.get_alloc_ne _ _ ei] at hi
            rcases ih3 b ⟨i, o, hi, ho, hb⟩ with h | ⟨k, k1, k2, k3⟩
            · exact .inl h
            · exact .inr ⟨k, k1, by omega, k3⟩
end
end Can
end Go.Sx
