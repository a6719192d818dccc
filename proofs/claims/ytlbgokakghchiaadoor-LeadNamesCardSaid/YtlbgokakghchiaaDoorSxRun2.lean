/- DERIVED, by an AI agent: a part of the engine 'Sx' (a machine over values and numbered objects, proved sound against the model's calls): no condition. No person has read it. -/
import Derived.Test.YtlbgokakghchiaaDoorSxRun
set_option linter.all false
namespace Go.Sx
open Go Go.RowKit Go.Conc

section
variable {N : Nat} {G : Nat → Option Nat} {ρ ρ' : Env} {h h' : AHeap} {w w' : World} {P : Program} {call : CallF} {t t' : List AV} {a : Act}
  {Q : Exit → Act → World → Prop} {ov : FuncId → Option (List AV → AHeap → Option (AV × AHeap))}

theorem aopC_mono (hc : CallOk P N G call) {e : Operand → Option AV} {o : Oper} {c : Cls} {v : AV} (h2 : aopC P call e h o = some (c, v, h')) : h.n ≤ h'.n := by
  unfold aopC at h2
  split at h2
  · rw [Option.map_eq_some_iff] at h2
    obtain ⟨r, hr, hq⟩ := h2
    simp only [Prod.mk.injEq] at hq
    rw [← hq.2.2]
    exact awrite_mono (v := r.1) (h' := r.2) hr
  · split at h2
    · rw [Option.map_eq_some_iff] at h2
      obtain ⟨r, hr, hq⟩ := h2
      simp only [Prod.mk.injEq] at hq
      rw [← hq.2.2]
      exact aeff_mono (v := r.1) (h' := r.2) hc hr
    · rw [Option.map_eq_some_iff] at h2
      obtain ⟨r, hr, hq⟩ := h2
      simp only [Prod.mk.injEq] at hq
      rw [← hq.2.2]
      exact Nat.le_refl _

theorem arunC_mono (hc : CallOk P N G call) {ops : Array Oper} (l : List Nat) : ∀ (t : List AV) (h : AHeap) (rs : List Rec), arunC P G call ops l t h = some (rs, t', h') → h.n ≤ h'.n := by
  induction l with
  | nil => intro t h rs hs; simp only [arunC, Option.some.injEq, Prod.mk.injEq] at hs; rw [← hs.2.2]; exact Nat.le_refl _
  | cons i is ih =>
    intro t h rs hs
    unfold arunC at hs
    simp only at hs
    split at hs
    · split at hs
      · rename_i c v h1 h2
        split at hs
        · rename_i rs1 t1 h3 h4
          simp only [Option.some.injEq, Prod.mk.injEq] at hs
          obtain ⟨_, rfl, rfl⟩ := hs
          exact Nat.le_trans (aopC_mono hc h2) (ih _ _ _ h4)
        · cases hs
      · cases hs
    · split at hs
      · rename_i rs1 t1 h3 h4
        simp only [Option.some.injEq, Prod.mk.injEq] at hs
        obtain ⟨_, rfl, rfl⟩ := hs
        exact ih _ _ _ h4
      · cases hs

theorem adraw_mono (hc : CallOk P N G call) {ops : Array Oper} (hs : adraw P G call ops t h = some (t', h')) : h.n ≤ h'.n := by
  unfold adraw at hs
  split at hs
  · split at hs
    · rename_i rs t1 h1 hr
      split at hs
      · simp only [Option.some.injEq, Prod.mk.injEq] at hs
        obtain ⟨rfl, rfl⟩ := hs
        exact arunC_mono hc _ _ _ _ hr
      · cases hs
    · cases hs
  · cases hs

def AExit.up : AExit → Exit
  | .normal => .normal
  | .exit id => .exit id
  | .ret => .ret

/-- what a run of code is -/
def CodeAt (P : Program) (N : Nat) (G : Nat → Option Nat) (run : List AV → AHeap → ARes) (c : Code) : Prop :=
  ∀ t h e t' h', run t h = some (e, t', h') → h.n ≤ h'.n ∧ ∀ ρ a w, R N G ρ h w → TR (below h.n) ρ t a → ∀ Q : Exit → Act → World → Prop,
    (∀ ρ' a' w', R N G ρ' h' w' → Stp ρ h w ρ' h' w' → TR (below h'.n) ρ' t' a' → Q e.up a' w') → c.wp P Q a w

/-- a loop, round by round -/
theorem aloop_at {c : Code} {body : List AV → AHeap → ARes} (hb : CodeAt P N G body c) :
    ∀ m t h e t' h', aloop body m t h = some (e, t', h') → h.n ≤ h'.n ∧ ∀ ρ a w, R N G ρ h w → TR (below h.n) ρ t a → ∀ Q : Exit → Act → World → Prop,
    (∀ ρ' a' w', R N G ρ' h' w' → Stp ρ h w ρ' h' w' → TR (below h'.n) ρ' t' a' → Q e.up a' w') →
    ∀ b k cs, ∃ e' a' w', Q e' a' w' ∧ Arrives P (lone (b.at a (.code c :: .inLoop c :: k)) cs w) b k cs e' a' w' := by
  intro m
  induction m with
  | zero => intro t h e t' h' hs; simp [aloop] at hs
  | succ m ih =>
    intro t h e t' h' hs
    unfold aloop at hs
    split at hs
    · rename_i t1 h1 h2
      obtain ⟨n1, s1⟩ := hb _ _ _ _ _ h2
      obtain ⟨n2, s2⟩ := ih _ _ _ _ _ hs
      refine ⟨Nat.le_trans n1 n2, ?_⟩
      intro ρ a w r x Q hQ b k cs
      have hwp := s1 ρ a w r x (fun e a' w' => e = .normal ∧ ∃ e' a2 w2, Q e' a2 w2 ∧ Arrives P (lone (b.at a' (.inLoop c :: k)) cs w') b k cs e' a2 w2) (by
        intro ρ1 a1 w1 k1 k2 k3
        refine ⟨rfl, ?_⟩
        obtain ⟨e', a2, w2, q1, q2⟩ := s2 ρ1 a1 w1 k1 k3 Q (fun ρ2 a2 w2 z1 z2 z3 => hQ ρ2 a2 w2 z1 (k2.trans z2) z3) b k cs
        exact ⟨e', a2, w2, q1, .of_steps (.one step_inLoop) q2⟩)
      obtain ⟨e0, a0, w0, ⟨rfl, e', a2, w2, q1, q2⟩, harr⟩ := hwp b (.inLoop c :: k) cs
      exact ⟨e', a2, w2, q1, .of_steps harr q2⟩
    · rename_i hne
      obtain ⟨n1, s1⟩ := hb _ _ _ _ _ hs
      refine ⟨n1, ?_⟩
      intro ρ a w r x Q hQ b k cs
      have hen : e ≠ .normal := fun he => by subst he; exact hne _ _ hs
      have hwp := s1 ρ a w r x (fun e' a' w' => e' = e.up ∧ Q e' a' w') (fun ρ' a' w' k1 k2 k3 => ⟨rfl, hQ ρ' a' w' k1 k2 k3⟩)
      obtain ⟨e0, a0, w0, ⟨rfl, q1⟩, harr⟩ := hwp b (.inLoop c :: k) cs
      refine ⟨_, a0, w0, q1, .pass (x := .inLoop c) rfl (fun _ _ => .inl ?_) harr⟩
      cases e <;> simp_all [AExit.up]

theorem acodeF_at (hm : P.follows .mixedOrders = true) (hc : CallOk P N G call) {n : Nat} {rec : Code → List AV → AHeap → ARes} (hr : ∀ c, CodeAt P N G (rec c) c) (c : Code) :
    CodeAt P N G (acodeF P G call n rec c) c := by
  intro t h e t' h' hs
  unfold acodeF at hs
  split at hs
  · simp only [Option.some.injEq, Prod.mk.injEq] at hs
    obtain ⟨rfl, rfl, rfl⟩ := hs
    exact ⟨Nat.le_refl _, fun ρ a w r x Q hQ => wp_skip (hQ ρ a w r (Stp.refl _ _ _) x)⟩
  · simp only [Option.some.injEq, Prod.mk.injEq] at hs
    obtain ⟨rfl, rfl, rfl⟩ := hs
    exact ⟨Nat.le_refl _, fun ρ a w r x Q hQ => wp_label (hQ ρ a w r (Stp.refl _ _ _) x)⟩
  · rename_i ops draw
    split at hs
    · rename_i t1 h1 hq
      simp only [Option.some.injEq, Prod.mk.injEq] at hs
      obtain ⟨rfl, rfl, rfl⟩ := hs
      cases draw with
      | true => exact ⟨adraw_mono hc hq, fun ρ a w r x Q hQ => adraw_sound hm hc r x hq hQ⟩
      | false => exact ⟨aregion_mono hc hq, fun ρ a w r x Q hQ => aregion_sound hc r x hq hQ⟩
    · cases hs
  · rename_i x y
    split at hs
    · rename_i t1 h1 h2
      obtain ⟨n1, s1⟩ := hr x _ _ _ _ _ h2
      obtain ⟨n2, s2⟩ := hr y _ _ _ _ _ hs
      refine ⟨Nat.le_trans n1 n2, fun ρ a w r z Q hQ => wp_seq (s1 ρ a w r z _ ?_)⟩
      intro ρ1 a1 w1 k1 k2 k3
      exact s2 ρ1 a1 w1 k1 k3 Q (fun ρ2 a2 w2 z1 z2 z3 => hQ ρ2 a2 w2 z1 (k2.trans z2) z3)
    · rename_i hne
      obtain ⟨n1, s1⟩ := hr x _ _ _ _ _ hs
      refine ⟨n1, fun ρ a w r z Q hQ => wp_seq (s1 ρ a w r z _ ?_)⟩
      intro ρ1 a1 w1 k1 k2 k3
      have hq := hQ ρ1 a1 w1 k1 k2 k3
      have hen : e ≠ .normal := fun he => by subst he; exact hne _ _ hs
      cases e with
      | normal => exact absurd rfl hen
      | exit id => exact hq
      | ret => exact hq
  · rename_i c x y
    have hcond : ∀ b, aev G t c = some (.bool b) → ∀ ρ a w, R N G ρ h w → TR (below h.n) ρ t a → a.eval c = .bool b := by
      intro b hb ρ a w r z
      have he : Evs (aev G t) (evOf ρ t) ρ (below h.n) := Evs.mk (r.globS fun _ hi => hi) z.ws
      rw [z.eval]
      exact he.of hb
    split at hs
    · rename_i hb
      obtain ⟨n1, s1⟩ := hr x _ _ _ _ _ hs
      exact ⟨n1, fun ρ a w r z Q hQ => wp_cond_true (hcond _ hb ρ a w r z) (s1 ρ a w r z Q hQ)⟩
    · rename_i hb
      obtain ⟨n1, s1⟩ := hr y _ _ _ _ _ hs
      exact ⟨n1, fun ρ a w r z Q hQ => wp_cond_false (hcond _ hb ρ a w r z) (s1 ρ a w r z Q hQ)⟩
    · cases hs
  · rename_i id c
    split at hs
    · rename_i i t1 h1 h2
      obtain ⟨n1, s1⟩ := hr c _ _ _ _ _ h2
      split at hs
      · rename_i hi
        simp only [Option.some.injEq, Prod.mk.injEq] at hs
        obtain ⟨rfl, rfl, rfl⟩ := hs
        refine ⟨n1, fun ρ a w r z Q hQ => wp_block (s1 ρ a w r z _ ?_)⟩
        intro ρ1 a1 w1 k1 k2 k3
        show Exit.inBlock id Q (.exit i) a1 w1
        simp only [Exit.inBlock, hi, if_true]
        exact hQ ρ1 a1 w1 k1 k2 k3
      · rename_i hi
        simp only [Option.some.injEq, Prod.mk.injEq] at hs
        obtain ⟨rfl, rfl, rfl⟩ := hs
        refine ⟨n1, fun ρ a w r z Q hQ => wp_block (s1 ρ a w r z _ ?_)⟩
        intro ρ1 a1 w1 k1 k2 k3
        show Exit.inBlock id Q (.exit i) a1 w1
        simp only [Exit.inBlock, hi, if_false]
        exact hQ ρ1 a1 w1 k1 k2 k3
    · rename_i hne
      obtain ⟨n1, s1⟩ := hr c _ _ _ _ _ hs
      refine ⟨n1, fun ρ a w r z Q hQ => wp_block (s1 ρ a w r z _ ?_)⟩
      intro ρ1 a1 w1 k1 k2 k3
      have hq := hQ ρ1 a1 w1 k1 k2 k3
      cases e with
      | normal => exact hq
      | exit i => exact absurd hs (hne _ _ _)
      | ret => exact hq
  · rename_i c
    obtain ⟨n1, s1⟩ := aloop_at (hr c) n _ _ _ _ _ hs
    refine ⟨n1, fun ρ a w r z Q hQ b k cs => ?_⟩
    obtain ⟨e', a', w', q1, q2⟩ := s1 ρ a w r z Q hQ b k cs
    exact ⟨e', a', w', q1, .of_steps (.one step_loop) q2⟩
  · simp only [Option.some.injEq, Prod.mk.injEq] at hs
    obtain ⟨rfl, rfl, rfl⟩ := hs
    exact ⟨Nat.le_refl _, fun ρ a w r x Q hQ => wp_exit (hQ ρ a w r (Stp.refl _ _ _) x)⟩
  · simp only [Option.some.injEq, Prod.mk.injEq] at hs
    obtain ⟨rfl, rfl, rfl⟩ := hs
    exact ⟨Nat.le_refl _, fun ρ a w r x Q hQ => wp_ret (hQ ρ a w r (Stp.refl _ _ _) x)⟩
  · cases hs

theorem acode_at (hm : P.follows .mixedOrders = true) (hc : CallOk P N G call) : ∀ (n : Nat) (c : Code), CodeAt P N G (acode P G call n c) c
  | 0, c => fun t h e t' h' hs => by simp [acode] at hs
  | n + 1, c => acodeF_at (rec := acode P G call n) hm hc (acode_at hm hc n) c

/-- one result -/
def resOf (tm : Array Value) : ResultVar → Sem Value
  | .tmp x => pure (tm.getD x undef)
  | .cell a ty => do loadVar ty (← asAddr (tm.getD a undef))

theorem results_eq (fn : Func) (tm : Array Value) : results fn tm = (do
    let vs ← fn.results.toList.mapM (resOf tm)
    pure (if h : vs.toArray.size = 1 then vs.toArray[0] else .tuple vs.toArray)) := by
  unfold results
  rw [Array.mapM_eq_mapM_toList]
  simp
  congr 2
  funext x
  cases x <;> simp [resOf]

theorem aresult_sound (r : R N G ρ h w) (hw : AV.wsL (below h.n) t) {rv : ResultVar} {v : AV} (hs : aresult P h t rv = some v) :
    (resOf (AV.denL ρ t).toArray rv).run P w = .ok (v.den ρ) w ∧ v.ws (below h.n) := by
  cases rv with
  | tmp x =>
    simp only [aresult, Option.some.injEq] at hs
    subst hs
    exact ⟨by simp only [resOf, Sem.run_pure, getD_den], ws_getD hw x⟩
  | cell a ty =>
    simp only [aresult] at hs
    split at hs
    · rename_i i o hq
      obtain ⟨k1, k2⟩ := aload_sound r hs
      refine ⟨?_, k2⟩
      simp only [resOf, getD_den, hq, AV.den, Sem.run_bind, asAddr, Sem.run_pure, Result.andThen_ok, k1]
    · cases hs

theorem aresultL_sound (r : R N G ρ h w) (hw : AV.wsL (below h.n) t) : ∀ (l : List ResultVar) (vs : List AV), aresultL P h t l = some vs →
    (l.mapM (resOf (AV.denL ρ t).toArray)).run P w = .ok (AV.denL ρ vs) w ∧ AV.wsL (below h.n) vs
  | [], vs, hs => by
    simp only [aresultL, Option.some.injEq] at hs
    subst hs
    exact ⟨by simp [AV.denL], trivial⟩
  | rv :: rs, vs, hs => by
    unfold aresultL at hs
    split at hs
    · rename_i v us hv hus
      simp only [Option.some.injEq] at hs
      subst hs
      obtain ⟨k1, k2⟩ := aresult_sound r hw hv
      obtain ⟨q1, q2⟩ := aresultL_sound r hw rs us hus
      refine ⟨?_, k2, q2⟩
      simp [k1, q1, AV.denL]
    · cases hs

theorem aresults_sound (r : R N G ρ h w) (hw : AV.wsL (below h.n) t) {fn : Func} {v : AV} (hs : aresults P fn h t = some v) :
    (results fn (AV.denL ρ t).toArray).run P w = .ok (v.den ρ) w ∧ v.ws (below h.n) := by
  have hl : ∀ vs, aresultL P h t fn.results.toList = some vs → (results fn (AV.denL ρ t).toArray).run P w = .ok (if h : (AV.denL ρ vs).toArray.size = 1 then (AV.denL ρ vs).toArray[0] else .tuple (AV.denL ρ vs).toArray) w ∧ AV.wsL (below h.n) vs := by
    intro vs hv
    obtain ⟨k1, k2⟩ := aresultL_sound r hw _ _ hv
    refine ⟨?_, k2⟩
    rw [results_eq, Sem.run_bind, k1, Result.andThen_ok, Sem.run_pure]
  unfold aresults at hs
  split at hs
  · rename_i u hu
    simp only [Option.some.injEq] at hs
    subst hs
    obtain ⟨k1, k2⟩ := hl _ hu
    exact ⟨by rw [k1]; rfl, k2.1⟩
  · rename_i vs hne hv
    simp only [Option.some.injEq] at hs
    subst hs
    obtain ⟨k1, k2⟩ := hl _ hv
    refine ⟨?_, k2⟩
    rw [k1, dif_neg]
    · rfl
    · intro hsz
      match vs, hsz with
      | [u], _ => exact hne u rfl
      | [], hsz => simp [AV.denL] at hsz
      | a :: b :: l, hsz => simp [AV.denL] at hsz
  · cases hs

theorem aframe_tr {fn : Func} {args : List AV} (hw : AV.wsL (below h.n) args) :
    TR (below h.n) ρ (aframe fn args) { tmps := (AV.denL ρ args).toArray ++ Array.replicate (fn.ntmps - (AV.denL ρ args).toArray.size) undef, defers := [] } := by
  refine ⟨?_, rfl, ?_⟩
  · apply Array.ext'
    simp [aframe, denL_map, AV.den, undef]
  · refine wsL_append hw ?_
    rw [wsL_iff]
    intro v hv
    rw [List.eq_of_mem_replicate hv]
    trivial

theorem acallF_ok (hm : P.follows .mixedOrders = true) (hc : CallOk P N G call) (n : Nat) : CallOk P N G (acallF P G n call) := by
  have key : ∀ f args h v h', acallF P G n call f args h = some (v, h') → ∃ fn c e t, P.funcs[f]? = some fn ∧ fn.body = some c ∧ acode P G call n c (aframe fn args) h = some (e, t, h') ∧ (e = .normal ∨ e = .ret) ∧ aresults P fn h' t = some v := by
    intro f args h v h' hs
    unfold acallF at hs
    split at hs
    · rename_i fn hfn
      split at hs
      · rename_i c hb
        split at hs
        · rename_i t h1 hq
          rw [Option.map_eq_some_iff] at hs
          obtain ⟨u, hu, he⟩ := hs
          simp only [Prod.mk.injEq] at he
          obtain ⟨rfl, rfl⟩ := he
          exact ⟨fn, c, _, t, hfn, hb, hq, .inl rfl, hu⟩
        · rename_i t h1 hq
          rw [Option.map_eq_some_iff] at hs
          obtain ⟨u, hu, he⟩ := hs
          simp only [Prod.mk.injEq] at he
          obtain ⟨rfl, rfl⟩ := he
          exact ⟨fn, c, _, t, hfn, hb, hq, .inr rfl, hu⟩
        · cases hs
      · cases hs
    · cases hs
  constructor
  · intro f args h v h' hs
    obtain ⟨fn, c, e, t, _, _, hq, _, _⟩ := key _ _ _ _ _ hs
    exact (acode_at hm hc n c _ _ _ _ _ hq).1
  · intro f args h v h' hs ρ w r hw
    obtain ⟨fn, c, e, t, hfn, hb, hq, he, hr⟩ := key _ _ _ _ _ hs
    refine calls_of_wp hfn hb ?_
    refine (acode_at hm hc n c _ _ _ _ _ hq).2 ρ _ w r (aframe_tr hw) _ ?_
    intro ρ' a' w' k1 k2 k3
    obtain ⟨q1, q2⟩ := aresults_sound k1 k3.ws hr
    have : bodyPost P fn (fun e w' => ∃ ρ', e = Ending.returned (v.den ρ') ∧ R N G ρ' h' w' ∧ Stp ρ h w ρ' h' w' ∧ v.ws (below h'.n)) .normal a' w' :=
      ⟨k3.defers, _, by rw [k3.tmps]; exact q1, ρ', rfl, k1, k2, q2⟩
    rcases he with rfl | rfl
    · exact this
    · exact this

theorem acall_ok (hm : P.follows .mixedOrders = true)
    (hov : ∀ f g, ov f = some g → CallOk P N G (fun f' args h => if f' = f then g args h else none)) : ∀ n, CallOk P N G (acall P G ov n)
  | 0 => ⟨fun f args h v h' hs => by simp [acall] at hs, fun f args h v h' hs => by simp [acall] at hs⟩
  | n + 1 => by
    have ih := acall_ok hm hov n
    have hF := acallF_ok hm ih n
    have key : ∀ f args h, acall P G ov (n + 1) f args h = (match ov f with | some g => g args h | none => acallF P G n (acall P G ov n) f args h) := fun _ _ _ => rfl
    constructor
    · intro f args h v h' hs
      rw [key] at hs
      split at hs
      · rename_i g hg
        exact (hov f g hg).mono f args h v h' (by rw [if_pos rfl]; exact hs)
      · exact hF.mono _ _ _ _ _ hs
    · intro f args h v h' hs
      rw [key] at hs
      split at hs
      · rename_i g hg
        exact (hov f g hg).sound f args h v h' (by rw [if_pos rfl]; exact hs)
      · exact hF.sound _ _ _ _ _ hs
end
end Go.Sx
