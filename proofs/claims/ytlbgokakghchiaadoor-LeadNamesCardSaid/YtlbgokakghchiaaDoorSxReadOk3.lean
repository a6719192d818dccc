/- DERIVED, by an AI agent: a part of the engine 'Sx' (a machine over values and numbered objects, proved sound against the model's calls): no condition. No person has read it. -/
import Derived.Test.YtlbgokakghchiaaDoorSxReadOk2
set_option linter.all false
namespace Go.Sx
open Go Go.RowKit

section
variable {N : Nat} {G : Nat → Option Nat} {ρ : Env} {h : AHeap} {S : Nat → Prop} {w : World} {P : Program} {e : Operand → Option AV} {ev : Operand → Value}

theorem akeyEq_sound {kd : TypeDesc} (hk : isKeyD kd = true) {a b : AV} {r : Bool} (hq : akeyEq a b = some r)
    (hfit : (∃ k n k', kd = .int k' ∧ a = .int k n) ∨ (∃ x, kd = .bool ∧ a = .bool x)) : Instr.sameNow kd (a.den ρ) (b.den ρ) = some r := by
  unfold akeyEq at hq
  split at hq
  · rename_i k x k' y
    rcases hfit with ⟨_, _, q, rfl, _⟩ | ⟨_, rfl, h0⟩
    · split at hq
      · rename_i hkk
        simp only [Option.some.injEq] at hq
        subst hq
        simp [AV.den, Instr.sameNow, hkk]
      · cases hq
    · cases h0
  · rcases hfit with ⟨_, _, q, rfl, h0⟩ | ⟨_, rfl, _⟩
    · cases h0
    · simp only [Option.some.injEq] at hq
      subst hq
      simp [AV.den, Instr.sameNow]
  · cases hq

theorem keyFits_spec {kd : TypeDesc} {a : AV} (hf : keyFits kd a = true) : (∃ k n k', kd = .int k' ∧ a = .int k n) ∨ (∃ x, kd = .bool ∧ a = .bool x) := by
  unfold keyFits at hf
  split at hf
  · exact .inl ⟨_, _, _, rfl, rfl⟩
  · exact .inr ⟨_, rfl, rfl⟩
  · cases hf

theorem afind_sound {kd : TypeDesc} {k : AV} (hf : keyFits kd k = true) : ∀ (es : List (AV × AV)) (l : List MapEntry) (i : Nat) (r : Option (Nat × AV)),
    l.map (fun e => (e.key, e.val)) = es.map (fun p => (p.1.den ρ, p.2.den ρ)) → afind k es = some r →
    Instr.findNow kd (k.den ρ) l i = some (r.map fun p => (i + p.1, p.2.den ρ))
  | [], l, i, r, hl, hq => by
    cases l with
    | nil => simp only [afind, Option.some.injEq] at hq; subst hq; rfl
    | cons _ _ => simp at hl
  | (k', v) :: es, l, i, r, hl, hq => by
    cases l with
    | nil => simp at hl
    | cons e l =>
      simp only [List.map_cons, List.cons.injEq, Prod.mk.injEq] at hl
      obtain ⟨⟨hk, hv⟩, hl⟩ := hl
      have hkd : isKeyD kd = true := by
        rcases keyFits_spec hf with ⟨_, _, _, rfl, _⟩ | ⟨_, rfl, _⟩ <;> rfl
      simp only [afind] at hq
      split at hq
      · rename_i heq
        simp only [Option.some.injEq] at hq
        subst hq
        have h1 := akeyEq_sound (ρ := ρ) hkd heq (keyFits_spec hf)
        simp [Instr.findNow, hk, h1, hv]
      · rename_i heq
        have h1 := akeyEq_sound (ρ := ρ) hkd heq (keyFits_spec hf)
        split at hq
        · rename_i j x hr
          simp only [Option.some.injEq] at hq
          subst hq
          have ih := afind_sound hf es l (i + 1) _ hl hr
          simp only [Instr.findNow, hk, h1, ih]
          simp [Nat.add_assoc, Nat.add_comm 1]
        · rename_i hr
          simp only [Option.some.injEq] at hq
          subst hq
          have ih := afind_sound hf es l (i + 1) _ hl hr
          simp [Instr.findNow, hk, h1, ih]
        · cases hq
      · cases hq

theorem afind_ws {n : Nat → Prop} {k : AV} : ∀ (es : List (AV × AV)) (r : Nat × AV), (∀ p, p ∈ es → p.1.ws n ∧ p.2.ws n) → afind k es = some (some r) → r.2.ws n
  | [], r, _, hq => by simp [afind] at hq
  | (k', v) :: es, r, hw, hq => by
    simp only [afind] at hq
    split at hq
    · simp only [Option.some.injEq] at hq; subst hq; exact (hw _ (List.mem_cons_self ..)).2
    · split at hq
      · rename_i j x hr
        simp only [Option.some.injEq] at hq
        subst hq
        have := afind_ws es (j, x) (fun p hp => hw p (List.mem_cons_of_mem _ hp)) hr
        exact this
      · simp at hq
      · cases hq
    · cases hq

theorem checkKey_fits {kt : TypeId} {kd : TypeDesc} (hd : P.underlying kt = some kd) {k : AV} (hf : keyFits kd k = true) (b : Bool) (w : World) :
    (Instr.checkKey b 10000 kt (k.den ρ)).run P w = .ok () w := by
  rcases keyFits_spec hf with ⟨_, _, _, rfl, rfl⟩ | ⟨_, rfl, rfl⟩ <;> (rw [Instr.checkKey]; simp [run_underlying hd, AV.den])

theorem alookup_sound (r : R N G ρ h w) {t : TypeId} {m k v : AV} {ok : Bool} (hs : alookup P h t m k ok = some v) :
    (Instr.lookup t (m.den ρ) (k.den ρ) ok).run P w = .ok (v.den ρ) w ∧ v.ws (below h.n) := by
  unfold alookup at hs
  split at hs
  case h_2 => cases hs
  rename_i kt el hd
  split at hs
  case h_2 => cases hs
  rename_i kd z es hkd hz hes
  split at hs
  case isFalse => cases hs
  rename_i hf
  obtain ⟨z1, z2⟩ := azero_sound (ρ := ρ) hz w (below h.n)
  -- the entries
  have hent : ∃ l : Array MapEntry, l.toList.map (fun e => (e.key, e.val)) = es.map (fun p => (p.1.den ρ, p.2.den ρ)) ∧ (∀ p, p ∈ es → p.1.ws (below h.n) ∧ p.2.ws (below h.n)) ∧
      (Instr.lookup t (m.den ρ) (k.den ρ) ok).run P w = (do
        Instr.checkKey l.isEmpty 10000 kt (k.den ρ)
        let (v, ok') ← match ← Instr.findKey kt (k.den ρ) l.toList with
          | some (_, v) => pure (v, true)
          | none => pure (← zeroValue el, false)
        pure (if ok then Value.tuple #[v, .bool ok'] else v) : Sem Value).run P w := by
    split at hes
    · simp only [Option.some.injEq] at hes
      subst hes
      refine ⟨#[], rfl, nofun, ?_⟩
      simp only [Instr.lookup, Sem.run_bind, run_underlying hd, Result.andThen_ok, AV.den, Sem.run_pure]
      rfl
    · rename_i i
      split at hes
      · rename_i es' hi
        simp only [Option.some.injEq] at hes
        subst hes
        obtain ⟨ents, clk, g1, g2⟩ := r.fits i _ hi
        refine ⟨ents, g2, r.ws i _ hi, ?_⟩
        have hg : (getObj (ρ i).b).run P w = .ok (.map ents clk) w := by simp [getObj, Sem.run, g1]
        simp only [Instr.lookup, Sem.run_bind, run_underlying hd, Result.andThen_ok, AV.den, hg, Sem.run_pure]
        rfl
      · cases hes
    · cases hes
  obtain ⟨l, l1, l2, l3⟩ := hent
  rw [l3]
  simp only [Sem.run_bind, checkKey_fits (ρ := ρ) hkd hf, Result.andThen_ok]
  split at hs
  · rename_i j x hfd
    simp only [Option.some.injEq] at hs
    have h1 := afind_sound (ρ := ρ) hf es l.toList 0 _ l1 hfd
    have hw := afind_ws es _ l2 hfd
    simp only [Instr.findKey, Sem.run_bind, run_underlying hkd, Result.andThen_ok, h1, Option.map_some, Sem.run_pure]
    subst hs
    cases ok
    · exact ⟨by simp [Sem.run_pure], hw⟩
    · exact ⟨by simp [Sem.run_pure, AV.den, AV.denL], hw, trivial, trivial⟩
  · rename_i hfd
    simp only [Option.some.injEq] at hs
    have h1 := afind_sound (ρ := ρ) hf es l.toList 0 _ l1 hfd
    simp only [Instr.findKey, Sem.run_bind, run_underlying hkd, Result.andThen_ok, h1, Option.map_none, Sem.run_pure, z1]
    subst hs
    cases ok
    · exact ⟨by simp [Sem.run_pure], z2⟩
    · exact ⟨by simp [Sem.run_pure, AV.den, AV.denL], z2, trivial, trivial⟩
  · cases hs

theorem alen_sound (r : R N G ρ h w) {ts : Array TypeId} {args : Array Value} {ty t : TypeId} {x v : AV} (h1 : ts[0]? = some t) (h2 : args[0]? = some (x.den ρ)) (hs : alen P h t x = some v) :
    (Builtin.len_ ts ty args).run P w = .ok (v.den ρ) w ∧ v.ws (below h.n) := by
  have hb : (Builtin.len_ ts ty args) = (do
    match ← underlying t, x.den ρ with
    | .string, .string s => pure (goInt s.size)
    | .array n _, _ => pure (goInt n)
    | .pointer arr, _ =>
      let .array n _ ← underlying arr | stuck "len: pointer to array expected"
      pure (goInt n)
    | .slice _, .slice _ n _ => pure (goInt n)
    | .map _ _, .map none | .chan _ _, .chan none => pure (goInt 0)
    | .map _ _, .map (some r) =>
      let .map entries _ ← getObj r | stuck "len: map expected"
      pure (goInt entries.size)
    | .chan _ _, .chan (some r) =>
      let .chan _ buf _ _ _ timer ← getObj r | stuck "len: channel expected"
      pure (goInt (if timer then 0 else buf.size))
    | _, _ => stuck "len: string, array, pointer to array, slice, map or channel expected" : Sem Value) := by
    unfold Builtin.len_; simp only [h1, h2]; rfl
  rw [hb]
  unfold alen at hs
  split at hs
  · rename_i q n c z op hd
    simp only [Option.some.injEq] at hs
    subst hs
    refine ⟨?_, trivial⟩
    cases q <;> simp [run_underlying hd, AV.den, goInt]
  · rename_i n q hd
    simp only [Option.some.injEq] at hs
    subst hs
    refine ⟨?_, trivial⟩
    simp [run_underlying hd, AV.den, goInt]
  · rename_i hd
    simp only [Option.some.injEq] at hs
    subst hs
    refine ⟨?_, trivial⟩
    simp [run_underlying hd, AV.den, goInt]
  · rename_i hd
    simp only [Option.some.injEq] at hs
    subst hs
    refine ⟨?_, trivial⟩
    simp [run_underlying hd, AV.den, goInt]
  · rename_i i hd
    split at hs
    · rename_i es hi
      simp only [Option.some.injEq] at hs
      subst hs
      refine ⟨?_, trivial⟩
      obtain ⟨ents, clk, g1, g2⟩ := r.fits i _ hi
      have hg : (getObj (ρ i).b).run P w = .ok (.map ents clk) w := by simp [getObj, Sem.run, g1]
      have hl : ents.size = es.length := by have := congrArg List.length g2; simpa using this
      simp [run_underlying hd, AV.den, goInt, hg, hl]
    · cases hs
  · rename_i i hd
    split at hs
    · rename_i cap buf hi
      simp only [Option.some.injEq] at hs
      subst hs
      refine ⟨?_, trivial⟩
      obtain ⟨sn, rc, g1⟩ := r.fits i _ hi
      have hg : (getObj (ρ i).b).run P w = .ok (.chan cap (buf.map (AV.den ρ)).toArray false sn rc false) w := by simp [getObj, Sem.run, g1]
      simp [run_underlying hd, AV.den, goInt, hg]
    · cases hs
  · cases hs

theorem apure_sound (he : Evs e ev ρ S) {o : Oper} {v : AV} (hs : apure P e o = some v) :
    (execOp ev o).run P w = .ok (.value (v.den ρ)) w ∧ v.ws S := by
  unfold apure at hs
  by_cases hc : ((o.op.operands.toList.all fun x => oclosed (e x)) && !isSelect o.op) = true
  case neg => rw [if_neg hc] at hs; cases hs
  rw [if_pos hc] at hs
  simp only [Bool.and_eq_true, List.all_eq_true, Bool.not_eq_true'] at hc
  obtain ⟨hc, hsel⟩ := hc
  have hcong : execOp ev o = execOp (fun x => oden (e x)) o := by
    refine execOp_congr o (fun cs b hq => by rw [hq] at hsel; simp [isSelect] at hsel) (fun x hx => ?_)
    have h1 := hc x (by simpa using hx)
    cases hx' : e x with
    | none => simp [hx', oclosed] at h1
    | some u =>
      simp only [hx', oclosed] at h1 ⊢
      rw [he.of hx', oden, den_closed ρ ρ0 u h1]
  rw [hcong]
  split at hs
  · rename_i u hu
    obtain ⟨h1, h2⟩ := den_ofV ρ u v hs
    exact ⟨by rw [h1]; exact prun_run _ _ w hu, h2 _⟩
  · cases hs

theorem aread_sound (r : R N G ρ h w) (hS : ∀ i, i < h.n → S i) (he : Evs e ev ρ S) {o : Oper} {v : AV} (hs : aread P e h o = some v) :
    (execOp ev o).run P w = .ok (.value (v.den ρ)) w ∧ v.ws S := by
  unfold aread at hs
  obtain ⟨dst, op, type, pos, after, guard⟩ := o
  split at hs
  · rename_i x hop
    simp only at hop; subst hop
    exact ⟨by simp [execOp, he.of hs], he.wsOf hs⟩
  · rename_i x hop
    simp only at hop; subst hop
    exact ⟨by simp [execOp, he.of hs], he.wsOf hs⟩
  · rename_i c a b hop
    simp only at hop; subst hop
    split at hs
    · rename_i t x y hc ha hb
      simp only [Option.some.injEq] at hs
      subst hs
      have e1 := he.of hc
      have e2 := he.of ha
      have e3 := he.of hb
      simp only [AV.den] at e1
      cases t
      · exact ⟨by simp [execOp, e1, e3, asBool], he.wsOf hb⟩
      · exact ⟨by simp [execOp, e1, e2, asBool], he.wsOf ha⟩
    · cases hs
  · rename_i t a hop
    simp only at hop; subst hop
    split at hs
    · rename_i i off ha
      obtain ⟨h1, h2⟩ := aload_sound r hs
      have e1 := he.of ha
      simp only [AV.den] at e1
      exact ⟨by simp [execOp, e1, Instr.loadAt, Instr.sureAddr, h1], ws_mono hS _ h2⟩
    · cases hs
  · rename_i x hop
    simp only at hop; subst hop
    split at hs
    · rename_i p hx
      obtain ⟨i, off⟩ := p
      simp only [Option.some.injEq] at hs
      subst hs
      have e1 := he.of hx
      simp only [AV.den] at e1
      exact ⟨by simp [execOp, e1, AV.den], he.wsOf hx⟩
    · rename_i f a b hx
      simp only [Option.some.injEq] at hs
      subst hs
      have e1 := he.of hx
      simp only [AV.den] at e1
      exact ⟨by simp [execOp, e1, AV.den], he.wsOf hx⟩
    · cases hs
  · rename_i s x f hop
    simp only at hop; subst hop
    split at hs
    · rename_i u hx
      obtain ⟨h1, h2⟩ := afieldAt_sound (ρ := ρ) (w := w) (he.wsOf hx) hs
      exact ⟨by simp [execOp, he.of hx, h1], h2⟩
    · cases hs
  · rename_i t x ix hop
    simp only at hop; subst hop
    split at hs
    · rename_i u k hx hk
      obtain ⟨h1, h2⟩ := aindexAt_sound (ρ := ρ) (w := w) (he.wsOf hx) hs
      exact ⟨by simp [execOp, he.of hx, he.of hk, h1], h2⟩
    · cases hs
  · rename_i t x lo hi mx hop
    simp only at hop; subst hop
    split at hs
    · rename_i u hx
      split at hs
      · rename_i q hq
        simp only [Option.some.injEq] at hs
        subst hs
        obtain ⟨h1, h2⟩ := asliceAt_sound (ρ := ρ) (w := w) (P := P) he (he.wsOf hx) hq
        exact ⟨by simp [execOp, he.of hx, h1], h2⟩
      · exact apure_sound he hs
    · cases hs
  · rename_i s x f hop
    simp only at hop; subst hop
    split at hs
    · rename_i u hx
      obtain ⟨h1, h2⟩ := afield_sound (ρ := ρ) (w := w) (he.wsOf hx) hs
      exact ⟨by simp [execOp, he.of hx, h1], h2⟩
    · cases hs
  · rename_i t x ix hop
    simp only at hop; subst hop
    split at hs
    · rename_i u k hx hk
      split at hs
      · rename_i q hq
        simp only [Option.some.injEq] at hs
        subst hs
        obtain ⟨h1, h2⟩ := aindex_sound (ρ := ρ) (w := w) (he.wsOf hx) hq
        exact ⟨by simp [execOp, he.of hx, he.of hk, h1], h2⟩
      · exact apure_sound he hs
    · cases hs
  · rename_i x k hop
    simp only at hop; subst hop
    split at hs
    · rename_i vs hx
      have e1 := he.of hx
      simp only [AV.den] at e1
      have e2 := denL_get (ρ := ρ) hs
      exact ⟨by simp [execOp, e1, Instr.extract, e2], wsL_get (he.wsOf hx) hs⟩
    · cases hs
  · rename_i t parts hop
    simp only at hop; subst hop
    split at hs
    · rename_i ps hps
      obtain ⟨g1, g2⟩ := aparts_sound he _ _ hps
      obtain ⟨h1, h2⟩ := abuild_sound (ρ := ρ) (w := w) g2 hs
      refine ⟨?_, h2⟩
      have : (parts.map fun (x : Nat × Operand) => (x.1, ev x.2)) = (ps.map fun p => (p.1, p.2.den ρ)).toArray := by
        rw [← g1]; apply Array.ext'; simp
      simp only [execOp, this, Sem.run_bind, h1, Result.andThen_ok, Sem.run_pure]
    · cases hs
  · rename_i t x hop
    simp only at hop; subst hop
    split at hs
    · cases hs
    · rename_i d u hni hd hx
      simp only [Option.some.injEq] at hs
      subst hs
      refine ⟨?_, (he.wsOf hx : u.ws S)⟩
      cases d <;> first | (exact (hni _ rfl).elim) | simp [execOp, Instr.makeInterface, run_underlying hd, he.of hx, AV.den]
    · cases hs
  · rename_i f first captured hop
    simp only at hop; subst hop
    split at hs
    · rename_i a b ha hb
      simp only [Option.some.injEq] at hs
      subst hs
      obtain ⟨g1, g2⟩ := aops_sound he _ _ ha
      obtain ⟨g3, g4⟩ := aops_sound he _ _ hb
      refine ⟨?_, g2, g4⟩
      have e1 : first.map ev = (AV.denL ρ a).toArray := by rw [← g1]; apply Array.ext'; simp
      have e2 : captured.map ev = (AV.denL ρ b).toArray := by rw [← g3]; apply Array.ext'; simp
      simp [execOp, Instr.makeFunc, e1, e2, AV.den]
    · cases hs
  · rename_i x xT asserted ok hop
    simp only at hop; subst hop
    split at hs
    · rename_i u hx
      obtain ⟨h1, h2⟩ := aassert_sound (ρ := ρ) (w := w) (xT := xT) (he.wsOf hx) hs
      exact ⟨by simp [execOp, he.of hx, h1], h2⟩
    · cases hs
  · rename_i t m k ok hop
    simp only at hop; subst hop
    split at hs
    · rename_i vm vk hm hk
      obtain ⟨h1, h2⟩ := alookup_sound r hs
      exact ⟨by simp [execOp, he.of hm, he.of hk, h1], ws_mono hS _ h2⟩
    · cases hs
  · rename_i src dst' x hop
    simp only at hop; subst hop
    split at hs
    · rename_i u hx
      split at hs
      · rename_i q hq
        simp only [Option.some.injEq] at hs
        subst hs
        obtain ⟨h1, h2⟩ := aconv_sound r hq
        exact ⟨by simp [execOp, he.of hx, h1], ws_mono hS _ h2⟩
      · exact apure_sound he hs
    · cases hs
  · rename_i op' t x y yt hop
    simp only at hop; subst hop
    split at hs
    · rename_i a b ha hb
      split at hs
      · rename_i q hq
        obtain ⟨h1, h2⟩ := anil_sound (ρ := ρ) (w := w) (S := S) hq op' x y hs
        refine ⟨?_, h2⟩
        simp only [execOp, he.of ha, he.of hb]
        rw [Sem.run_bind, h1]; rfl
      · exact apure_sound he hs
    · cases hs
  · rename_i args argTypes hop
    simp only at hop; subst hop
    split at hs
    · rename_i t u ht hu
      split at hs
      · rename_i q hq
        simp only [Option.some.injEq] at hs
        subst hs
        cases hx : args[0]? with
        | none => simp [hx] at hu
        | some x =>
          simp only [hx, Option.bind_some] at hu
          have h0 : (args.map ev)[0]? = some (u.den ρ) := by simp [hx, he.of hu]
          obtain ⟨h1, h2⟩ := alen_sound (P := P) r (ts := argTypes) (ty := type) ht h0 hq
          refine ⟨?_, ws_mono hS _ h2⟩
          simp only [execOp, resolve, Sem.run_bind, Sem.run_pure, Result.andThen_ok, invoke, builtin, h1]
      · exact apure_sound he hs
    · cases hs
  · exact apure_sound he hs
end
end Go.Sx
