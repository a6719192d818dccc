/- DERIVED, by an AI agent: a part of the engine 'Sx' (a machine over values and numbered objects, proved sound against the model's calls): no condition. No person has read it. -/
import Derived.Test.YtlbgokakghchiaaDoorSxDraw2
import Derived.Conc.LoneSelect
set_option linter.all false
namespace Go.Sx
open Go Go.RowKit Go.Conc

/-- one case and a default, nobody else being there -/
def aselect (P : Program) (e : Operand → Option AV) (h : AHeap) (o : Oper) : Option (AV × AHeap) :=
  match o.op with
  | .select ⟨[s]⟩ false =>
    match e s.chan, azero P s.elem, s.send with
    | some (.chan (some i)), some z, none =>
      match h.get i with
      | some (.chan cap (v :: buf)) => some (.tuple [.int .i64 0, .bool true, v], h.set i (.chan cap buf))
      | some (.chan cap []) => some (.tuple [.int .i64 (-1), .bool false, z], h)
      | _ => none
    | some (.chan (some i)), some z, some x =>
      match h.get i, e x with
      | some (.chan cap buf), some v =>
        if buf.length < cap then some (.tuple [.int .i64 0, .bool false], h.set i (.chan cap (buf ++ [v])))
        else some (.tuple [.int .i64 (-1), .bool false], h)
      | _, _ => none
    | _, _, _ => none
  | _ => none

section
variable {N : Nat} {G : Nat → Option Nat} {ρ ρ' : Env} {h h' : AHeap} {w w' : World} {P : Program} {e : Operand → Option AV} {ev : Operand → Value} {S : Nat → Prop} {t : List AV} {a : Act}

theorem aselect_mono {o : Oper} {v : AV} (hs : aselect P e h o = some (v, h')) : h.n ≤ h'.n := by
  unfold aselect at hs
  repeat' split at hs
  all_goals first | (cases hs; done) | (simp only [Option.some.injEq, Prod.mk.injEq] at hs; rw [← hs.2]; first | exact Nat.le_refl _)

theorem stepG_apply_comm {fr : Frame} {cs : List Frame} {s : Sem Next} {w : World} {cases : Array CommCase} {shape : CommShape} (hr : s.run P w = .ok (.comm cases false shape) w) :
    ∃ es, stepG.apply P true fr cs none s w = .comm (Conc.G fr cs) cases false shape w es := by
  simp only [stepG.apply, Sem.runT_eq, hr]
  exact ⟨_, rfl⟩

/-- the step of a select -/
theorem aselect_step (r : R N G ρ h w) (he : Evs e ev ρ (below h.n)) {o : Oper} {v : AV} (hs : aselect P e h o = some (v, h'))
    {fr : Frame} {cs : List Frame} (hg : stepG P true (Conc.G fr cs) w = stepG.apply P true fr cs none (execOp ev o) w) :
    ∃ w', step P (lone fr cs w) = .next (lone (fr.finish (v.den ρ)) cs w') ∧ R N G ρ h' w' ∧ Stp ρ h w ρ h' w' ∧ v.ws (below h'.n) := by
  obtain ⟨dst, op, type, pos, after, guard⟩ := o
  unfold aselect at hs
  split at hs
  case h_2 => cases hs
  rename_i s hop
  simp only at hop; subst hop
  split at hs
  case h_3 => cases hs
  · rename_i i z hch hz hsend
    have e1 := he.of hch
    obtain ⟨ez, _⟩ := azero_sound (ρ := ρ) hz w (below h.n)
    have hrun : (execOp ev { dst, op := .select ⟨[s]⟩ false, type, pos, after, guard }).run P w = .ok (.comm #[rcase (ρ i).b (z.den ρ)] false .select) w := by
      simp only [execOp, Sem.run_bind]
      simp [hsend, e1, ez, AV.den, rcase]
    obtain ⟨es, hst⟩ := stepG_apply_comm (fr := fr) (cs := cs) hrun
    rw [hst] at hg
    split at hs
    case h_3 => cases hs
    · rename_i cap u buf hi
      simp only [Option.some.injEq, Prod.mk.injEq] at hs
      obtain ⟨rfl, rfl⟩ := hs
      obtain ⟨ss, rr, hc⟩ := r.fits i _ hi
      have hlt := (Array.getElem?_eq_some_iff.1 hc).1
      have hst := step_lone_select_recv_buf hg hc (by simp)
      have hws : u.ws (below h.n) ∧ AV.wsL (below h.n) buf := r.ws i _ hi
      refine ⟨w.setChan (ρ i).b cap (buf.map (AV.den ρ)).toArray false ss (rr + 1) false, ?_, ?_⟩
      · refine Eq.trans hst ?_
        simp [AV.den, AV.denL, goInt, lone, solo, Conc.G]
        rw [List.take_of_length_le (by simp)]
      · obtain ⟨k1, k2⟩ := r.set (w' := w.setChan (ρ i).b cap (buf.map (AV.den ρ)).toArray false ss (rr + 1) false) (o' := .chan cap buf) hi rfl rfl hws.2
          (fun b hne => by simp only [World.setChan]; rw [Array.getElem?_setIfInBounds_ne (Ne.symm hne)]) (size_setChan ..) rfl rfl rfl ⟨ss, rr + 1, heap_setChan _ _ _ _ _ _ _ _ hlt⟩
        exact ⟨k1, k2, trivial, trivial, hws.1, trivial⟩
    · rename_i cap hi
      simp only [Option.some.injEq, Prod.mk.injEq] at hs
      obtain ⟨rfl, rfl⟩ := hs
      obtain ⟨ss, rr, hc⟩ := r.fits i _ hi
      refine ⟨w, ?_, r, Stp.refl _ _ _, trivial, trivial, (azero_sound (ρ := ρ) hz w (below h.n)).2, trivial⟩
      refine Eq.trans (step_lone_select_default hg hc) ?_
      simp [AV.den, AV.denL, goInt, lone, solo, Conc.G]
  · rename_i i z x hch hz hsend
    have e1 := he.of hch
    obtain ⟨ez, _⟩ := azero_sound (ρ := ρ) hz w (below h.n)
    split at hs
    case h_2 => cases hs
    rename_i cap buf v0 hi hx
    have e2 := he.of hx
    have hrun : (execOp ev { dst, op := .select ⟨[s]⟩ false, type, pos, after, guard }).run P w = .ok (.comm #[scase (ρ i).b (v0.den ρ) (z.den ρ)] false .select) w := by
      simp only [execOp, Sem.run_bind]
      simp [hsend, e1, ez, AV.den, scase, e2]
    obtain ⟨es, hst⟩ := stepG_apply_comm (fr := fr) (cs := cs) hrun
    rw [hst] at hg
    obtain ⟨ss, rr, hc⟩ := r.fits i _ hi
    have hlt := (Array.getElem?_eq_some_iff.1 hc).1
    split at hs
    · rename_i hroom
      simp only [Option.some.injEq, Prod.mk.injEq] at hs
      obtain ⟨rfl, rfl⟩ := hs
      have hst := step_lone_select_send_room hg hc (by simpa using hroom)
      have hws : AV.wsL (below h.n) buf := r.ws i _ hi
      refine ⟨w.setChan (ρ i).b cap ((buf ++ [v0]).map (AV.den ρ)).toArray false (ss + 1) rr false, ?_, ?_⟩
      · refine Eq.trans hst ?_
        simp [AV.den, AV.denL, goInt, lone, solo, Conc.G]
      · obtain ⟨k1, k2⟩ := r.set (w' := w.setChan (ρ i).b cap ((buf ++ [v0]).map (AV.den ρ)).toArray false (ss + 1) rr false) (o' := .chan cap (buf ++ [v0])) hi rfl rfl (wsL_append hws ⟨he.wsOf hx, trivial⟩)
          (fun b hne => by simp only [World.setChan]; rw [Array.getElem?_setIfInBounds_ne (Ne.symm hne)]) (size_setChan ..) rfl rfl rfl ⟨ss + 1, rr, heap_setChan _ _ _ _ _ _ _ _ hlt⟩
        exact ⟨k1, k2, trivial, trivial, trivial⟩
    · rename_i hfull
      simp only [Option.some.injEq, Prod.mk.injEq] at hs
      obtain ⟨rfl, rfl⟩ := hs
      refine ⟨w, ?_, r, Stp.refl _ _ _, trivial, trivial, trivial⟩
      refine Eq.trans (step_lone_select_send_full hg hc (by simpa using hfull)) ?_
      simp [AV.den, AV.denL, goInt, lone, solo, Conc.G]

end
end Go.Sx
