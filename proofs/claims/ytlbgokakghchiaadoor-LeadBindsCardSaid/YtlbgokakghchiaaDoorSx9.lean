/- YtlbgokakghchiaaDoorSx9: texts of one's own, merged: SxW1, SxW2, SxW3, SxH, SxArg, SxArg2. -/
import Derived.Test.YtlbgokakghchiaaDoorSx8
import Derived.Test.YtlbgokakghchiaaDoorSx6
set_option linter.all false
namespace Go.Sv
open Go Go.RowKit Go.Sx

section
variable (P : Program) (G : Nat → Option Nat) (ov : FuncId → Option (List AV → AHeap → Option (AV × AHeap)))
/-! ### what comes behind, as names -/
def kq (d : Option Nat) (rest : List QO) (f : Fr) (L : Fr → AHeap → Prop) : AV → AHeap → Prop := fun v h' => VQ P G ov rest (fput f d v) h' L
def kd (d : Option Nat) (ef : Bool) (rest : List DO) (k : Nat) (hist : List (Nat × AHeap)) (f : Fr) (L : Fr → AHeap → Prop) : AV → AHeap → Prop :=
  fun v h' => VD P G ov rest (k + 1) (if ef then (k + 1, h') :: hist else hist) (fput f d v) h' L
def kc (d : Option Nat) (F : AHeap → List AV → AR) (vs : List AV) (lim : Nat) (ef : Bool) (rest : List DO) (k : Nat) (hist : List (Nat × AHeap)) (f : Fr) (L : Fr → AHeap → Prop) : AV → AHeap → Prop :=
  fun v h' => Chk F vs lim v hist ∧ VD P G ov rest (k + 1) (if ef then (k + 1, h') :: hist else hist) (fput f d v) h' L
def ks (b : VCd) (K : AExit → Fr → AHeap → Prop) : AExit → Fr → AHeap → Prop := nxt (fun f h => WC P G ov b f h K) K
end

section
variable {P : Program} {G : Nat → Option Nat} {ov : FuncId → Option (List AV → AHeap → Option (AV × AHeap))} {f : Fr} {h : AHeap} {K : AExit → Fr → AHeap → Prop} {L : Fr → AHeap → Prop} {M : AV → AHeap → Prop}

/-! ### the rules by which a walk is simplified -/
theorem xc_bool (b : Bool) (x y : Prop) : xc (.bool b) x y = if b = true then x else y := by rfl
theorem oev_t (n : Nat) : oev f (.t n) = f n := by rfl
theorem oev_c (v : AV) : oev f (.c v) = v := by rfl
theorem oevs_nil : oevs f [] = [] := by rfl
theorem oevs_cons (x : Opd) (l : List Opd) : oevs f (x :: l) = oev f x :: oevs f l := by rfl
theorem fput_some (d : Nat) (v : AV) : fput f (some d) v = fset f d v := by rfl
theorem fput_none (v : AV) : fput f none v = f := by rfl
theorem fset_lk (d : Nat) (v : AV) (n : Nat) : fset f d v n = if n = d then v else f n := by rfl
theorem ini_zero (a : AV) (l : List AV) : ini (a :: l) 0 = a := by rfl
theorem ini_succ (a : AV) (l : List AV) (n : Nat) : ini (a :: l) (n + 1) = ini l n := by rfl
theorem ini_at (l : List AV) (n : Nat) : ini l n = l.getD n (.tuple []) := by rfl
theorem fgt_at (x : Tmp) (b : Bool) : fgt f x b = match f x with | .bool c => c == b | _ => false := by rfl
theorem kq_at (d : Option Nat) (rest : List QO) (v : AV) (h' : AHeap) : kq P G ov d rest f L v h' = VQ P G ov rest (fput f d v) h' L := by rfl
theorem kd_t (d : Option Nat) (rest : List DO) (k : Nat) (hist : List (Nat × AHeap)) (v : AV) (h' : AHeap) : kd P G ov d true rest k hist f L v h' = VD P G ov rest (k + 1) ((k + 1, h') :: hist) (fput f d v) h' L := by rfl
theorem kd_f (d : Option Nat) (rest : List DO) (k : Nat) (hist : List (Nat × AHeap)) (v : AV) (h' : AHeap) : kd P G ov d false rest k hist f L v h' = VD P G ov rest (k + 1) hist (fput f d v) h' L := by rfl
theorem kc_f (d : Option Nat) (F : AHeap → List AV → AR) (vs : List AV) (lim : Nat) (rest : List DO) (k : Nat) (hist : List (Nat × AHeap)) (v : AV) (h' : AHeap) :
    kc P G ov d F vs lim false rest k hist f L v h' = (Chk F vs lim v hist ∧ VD P G ov rest (k + 1) hist (fput f d v) h' L) := by rfl
theorem ks_normal (b : VCd) : ks P G ov b K .normal f h = WC P G ov b f h K := by rfl
theorem ks_exit (b : VCd) (i : Nat) : ks P G ov b K (.exit i) f h = K (.exit i) f h := by rfl
theorem ks_ret (b : VCd) : ks P G ov b K .ret f h = K .ret f h := by rfl

theorem WC_skip : WC P G ov .skip f h K = K .normal f h := by rfl
theorem WC_reg (l : List QO) : WC P G ov (.reg l) f h K = VQ P G ov l f h (K .normal) := by rfl
theorem WC_sel (d : Option Nat) (q : QOp) (l : List QO) : WC P G ov (.sel d q l) f h K = RQ P G ov f h q (kq P G ov d l f (K .normal)) := by rfl
theorem WC_drw (l : List DO) : WC P G ov (.drw l) f h K = VD P G ov l 0 [(0, h)] f h (K .normal) := by rfl
theorem WC_seq (a b : VCd) : WC P G ov (.seq a b) f h K = WC P G ov a f h (ks P G ov b K) := by rfl
theorem WC_cond (c : Opd) (a b : VCd) : WC P G ov (.cond c a b) f h K = xc (oev f c) (WC P G ov a f h K) (WC P G ov b f h K) := by rfl
theorem WC_block (id : Nat) (c : VCd) : WC P G ov (.block id c) f h K = WC P G ov c f h (aft id K) := by rfl
theorem WC_exit (id : Nat) : WC P G ov (.exit id) f h K = K (.exit id) f h := by rfl
theorem WC_ret : WC P G ov .ret f h K = K .ret f h := by rfl
theorem aft_normal (id : Nat) : aft id K .normal f h = K .normal f h := by rfl
theorem aft_ret (id : Nat) : aft id K .ret f h = K .ret f h := by rfl
theorem aft_exit (id i : Nat) : aft id K (.exit i) f h = if i = id then K .normal f h else K (.exit i) f h := by simp only [aft]; split <;> rfl
theorem nxt_normal (X : Fr → AHeap → Prop) : nxt X K .normal f h = X f h := by rfl
theorem nxt_ret (X : Fr → AHeap → Prop) : nxt X K .ret f h = K .ret f h := by rfl
theorem nxt_exit (X : Fr → AHeap → Prop) (i : Nat) : nxt X K (.exit i) f h = K (.exit i) f h := by rfl
theorem fin_normal (rs : List ResultVar) : fin P rs M .normal f h = match fresults P rs h f with | some v => M v h | none => False := by rfl
theorem fin_ret (rs : List ResultVar) : fin P rs M .ret f h = match fresults P rs h f with | some v => M v h | none => False := by rfl
theorem VQ_nil : VQ P G ov [] f h L = L f h := by rfl
theorem VQ_op (d : Option Nat) (F : AHeap → List AV → AR) (xs : List Opd) (rest : List QO) : VQ P G ov (⟨d, none, .op F xs⟩ :: rest) f h L = xr (F h (oevs f xs)) (kq P G ov d rest f L) := by rfl
theorem VQ_callF (d : Option Nat) (g : FuncId) (xs : List Opd) (rest : List QO) : VQ P G ov (⟨d, none, .callF g xs⟩ :: rest) f h L = FW P G ov g (oevs f xs) h (kq P G ov d rest f L) := by rfl
theorem VQ_callV (d : Option Nat) (g : Opd) (xs : List Opd) (rest : List QO) : VQ P G ov (⟨d, none, .callV g xs⟩ :: rest) f h L = RQ P G ov f h (.callV g xs) (kq P G ov d rest f L) := by rfl
theorem VQ_guard (d : Option Nat) (x : Nat) (b : Bool) (q : QOp) (rest : List QO) : VQ P G ov (⟨d, some (x, b), q⟩ :: rest) f h L =
    if fgt f x b = true then VQ P G ov (⟨d, none, q⟩ :: rest) f h L else VQ P G ov rest (fput f d (.tuple [])) h L := by rfl
theorem RQ_op (F : AHeap → List AV → AR) (xs : List Opd) : RQ P G ov f h (.op F xs) M = xr (F h (oevs f xs)) M := by rfl
theorem RQ_callV (g : Opd) (xs : List Opd) : RQ P G ov f h (.callV g xs) M = match oev f g with
    | .func fn first cap => acallable P fn = true ∧ FW P G ov fn (first ++ oevs f xs ++ cap) h M
    | _ => False := by rfl
theorem VD_nil (k : Nat) (hist : List (Nat × AHeap)) : VD P G ov [] k hist f h L = L f h := by rfl
theorem VD_op (d : Option Nat) (F : AHeap → List AV → AR) (xs : List Opd) (ef : Bool) (rest : List DO) (k : Nat) (hist : List (Nat × AHeap)) : VD P G ov (⟨⟨d, none, .op F xs⟩, none, ef⟩ :: rest) k hist f h L =
    xr (F h (oevs f xs)) (kd P G ov d ef rest k hist f L) := by rfl
theorem VD_chk (d : Option Nat) (F : AHeap → List AV → AR) (xs : List Opd) (lim : Nat) (ef : Bool) (rest : List DO) (k : Nat) (hist : List (Nat × AHeap)) : VD P G ov (⟨⟨d, none, .op F xs⟩, some lim, ef⟩ :: rest) k hist f h L =
    xr (F h (oevs f xs)) (kc P G ov d F (oevs f xs) lim ef rest k hist f L) := by rfl
theorem VD_callF (d : Option Nat) (g : FuncId) (xs : List Opd) (ef : Bool) (rest : List DO) (k : Nat) (hist : List (Nat × AHeap)) : VD P G ov (⟨⟨d, none, .callF g xs⟩, none, ef⟩ :: rest) k hist f h L =
    FW P G ov g (oevs f xs) h (kd P G ov d ef rest k hist f L) := by rfl
theorem VD_callV (d : Option Nat) (g : Opd) (xs : List Opd) (ef : Bool) (rest : List DO) (k : Nat) (hist : List (Nat × AHeap)) : VD P G ov (⟨⟨d, none, .callV g xs⟩, none, ef⟩ :: rest) k hist f h L =
    RQ P G ov f h (.callV g xs) (kd P G ov d ef rest k hist f L) := by rfl
theorem VD_guard (d : Option Nat) (x : Nat) (b : Bool) (q : QOp) (c : Option Nat) (ef : Bool) (rest : List DO) (k : Nat) (hist : List (Nat × AHeap)) : VD P G ov (⟨⟨d, some (x, b), q⟩, c, ef⟩ :: rest) k hist f h L =
    if fgt f x b = true then VD P G ov (⟨⟨d, none, q⟩, c, ef⟩ :: rest) k hist f h L else VD P G ov rest (k + 1) hist (fput f d (.tuple [])) h L := by rfl
theorem Chk_nil (F : AHeap → List AV → AR) (vs : List AV) (lim : Nat) (v : AV) : Chk F vs lim v [] = True := by rfl
theorem Chk_cons (F : AHeap → List AV → AR) (vs : List AV) (lim : Nat) (v : AV) (p : Nat) (hp : AHeap) (r : List (Nat × AHeap)) : Chk F vs lim v ((p, hp) :: r) = ((p < lim ∨ F hp vs = some (v, hp)) ∧ Chk F vs lim v r) := by rfl
end
end Go.Sv
namespace Go.Sv
open Go Go.RowKit Go.Sx

/-- a result, its type worked out -/
inductive RV where
  | t (n : Nat)
  | c1 (a : Nat)
  | cN (a n : Nat)
def rres (P : Program) : List ResultVar → Option (List RV)
  | [] => some []
  | .tmp x :: r => (rres P r).map (.t x :: ·)
  | .cell a ty :: r => match rsize P ty with
    | some (false, _) => (rres P r).map (.c1 a :: ·)
    | some (true, n) => (rres P r).map (.cN a n :: ·)
    | none => none
def rv1 (h : AHeap) (f : Fr) : RV → Option AV
  | .t n => some (f n)
  | .c1 a => match f a with
    | .ptr (some (i, o)) => cellAt h i o
    | _ => none
  | .cN a n => match f a with
    | .ptr (some (i, o)) => (cellsAt h i o n).map .agg
    | _ => none
def rvL (h : AHeap) (f : Fr) : List RV → Option (List AV)
  | [] => some []
  | r :: rs => match rv1 h f r, rvL h f rs with
    | some v, some vs => some (v :: vs)
    | _, _ => none
def rvr (h : AHeap) (f : Fr) (l : List RV) : AR :=
  match rvL h f l with
  | some [v] => some (v, h)
  | some vs => some (.tuple vs, h)
  | none => none
def fnr (rs : List RV) (K : AV → AHeap → Prop) : AExit → Fr → AHeap → Prop
  | .exit _, _, _ => False
  | _, f, h => xr (rvr h f rs) K

section
variable {P : Program} {G : Nat → Option Nat} {ov : FuncId → Option (List AV → AHeap → Option (AV × AHeap))} {N : Nat} {f : Fr} {h : AHeap} {K : AV → AHeap → Prop}

theorem rres_ok : ∀ {rs : List ResultVar} {l : List RV}, rres P rs = some l → fresultL P h f rs = rvL h f l
  | [], l, hr => by simp only [rres, Option.some.injEq] at hr; subst hr; rfl
  | .tmp x :: r, l, hr => by
    simp only [rres, Option.map_eq_some_iff] at hr
    obtain ⟨l', h1, rfl⟩ := hr
    simp only [fresultL, fresult, rvL, rv1, rres_ok h1] <;> rfl
  | .cell a ty :: r, l, hr => by
    have hl : ∀ i off, aload P h ty i off = match rsize P ty with
        | some (false, _) => cellAt h i off
        | some (true, n) => (cellsAt h i off n).map .agg
        | none => none := by
      intro i off
      unfold aload rsize
      split
      · rename_i d inf hd hi
        cases hq : isAggD d <;> simp [hd, hi, hq]
      · rename_i hne
        split
        · rename_i hh; split at hh
          · rename_i d inf hd hi; exact absurd hi (hne _ _ hd)
          · cases hh
        · rename_i hh; split at hh
          · rename_i d inf hd hi; exact absurd hi (hne _ _ hd)
          · cases hh
        · rfl
    simp only [rres] at hr
    split at hr
    · rename_i hq
      rw [Option.map_eq_some_iff] at hr
      obtain ⟨l', h1, rfl⟩ := hr
      have e1 : fresult P h f (.cell a ty) = rv1 h f (.c1 a) := by
        simp only [fresult, rv1]
        cases hfa : f a with
        | ptr p => cases p with
          | none => rfl
          | some q => obtain ⟨i, o⟩ := q; simp only [hl, hq]
        | _ => rfl
      simp only [fresultL, rvL, e1, rres_ok h1] <;> rfl
    · rename_i n hq
      rw [Option.map_eq_some_iff] at hr
      obtain ⟨l', h1, rfl⟩ := hr
      have e1 : fresult P h f (.cell a ty) = rv1 h f (.cN a n) := by
        simp only [fresult, rv1]
        cases hfa : f a with
        | ptr p => cases p with
          | none => rfl
          | some q => obtain ⟨i, o⟩ := q; simp only [hl, hq]
        | _ => rfl
      simp only [fresultL, rvL, e1, rres_ok h1] <;> rfl
    · cases hr

theorem fnr_fin {rs : List ResultVar} {l : List RV} (hr : rres P rs = some l) : ∀ e, fnr l K e f h → fin P rs K e f h := by
  intro e hw
  have key : xr (rvr h f l) K → (match fresults P rs h f with | some v => K v h | none => False) := by
    intro hx
    unfold fresults
    rw [rres_ok hr]
    unfold rvr at hx
    split at hx <;> simp_all [xr]
  cases e with
  | exit i => exact hw
  | normal => exact key hw
  | ret => exact key hw

theorem WC_mono : ∀ (c : VCd) (f : Fr) (h : AHeap) (K K' : AExit → Fr → AHeap → Prop), (∀ e f h, K e f h → K' e f h) → WC P G ov c f h K → WC P G ov c f h K' := by
  have hRQ : ∀ (f : Fr) (h : AHeap) (q : QOp) (K K' : AV → AHeap → Prop), (∀ v h, K v h → K' v h) → RQ P G ov f h q K → RQ P G ov f h q K' := by
    intro f h q K K' hk hw
    cases q with
    | op F xs => exact xr_mono hk hw
    | callF g xs => exact hw.mono hk
    | callV g xs =>
      simp only [RQ] at hw ⊢
      split at hw
      · exact ⟨hw.1, hw.2.mono hk⟩
      · exact hw.elim
  have hVQ : ∀ (l : List QO) (f : Fr) (h : AHeap) (K K' : Fr → AHeap → Prop), (∀ v h, K v h → K' v h) → VQ P G ov l f h K → VQ P G ov l f h K' := by
    intro l
    induction l with
    | nil => exact fun f h K K' hk hw => hk _ _ hw
    | cons q l ih =>
      intro f h K K' hk hw
      obtain ⟨d, g, op⟩ := q
      cases g with
      | none => exact hRQ _ _ _ _ _ (fun v h hq => ih _ _ _ _ hk hq) hw
      | some xb =>
        obtain ⟨x, b⟩ := xb
        simp only [VQ] at hw ⊢
        split at hw
        · rename_i hc; rw [if_pos hc]; exact hRQ _ _ _ _ _ (fun v h hq => ih _ _ _ _ hk hq) hw
        · rename_i hc; rw [if_neg hc]; exact ih _ _ _ _ hk hw
  have hVD : ∀ (l : List DO) (k : Nat) (hist : List (Nat × AHeap)) (f : Fr) (h : AHeap) (K K' : Fr → AHeap → Prop), (∀ v h, K v h → K' v h) → VD P G ov l k hist f h K → VD P G ov l k hist f h K' := by
    intro l
    induction l with
    | nil => exact fun k hist f h K K' hk hw => hk _ _ hw
    | cons q l ih =>
      intro k hist f h K K' hk hw
      have hRD : ∀ (K K' : AV → AHeap → Prop), (∀ v h, K v h → K' v h) → RD P G ov f h q hist K → RD P G ov f h q hist K' := by
        intro K K' hk hw
        unfold RD at hw ⊢
        split at hw
        · exact xr_mono (fun v h hq => ⟨hq.1, hk _ _ hq.2⟩) hw
        · exact hw.elim
        · exact hRQ _ _ _ _ _ hk hw
      unfold VD at hw ⊢
      split at hw
      · exact hRD _ _ (fun v h hq => ih _ _ _ _ _ _ hk hq) hw
      · split at hw
        · rename_i hc; rw [if_pos hc]; exact hRD _ _ (fun v h hq => ih _ _ _ _ _ _ hk hq) hw
        · rename_i hc; rw [if_neg hc]; exact ih _ _ _ _ _ _ hk hw
  intro c
  induction c with
  | skip => exact fun f h K K' hk hw => hk _ _ _ hw
  | reg l => exact fun f h K K' hk hw => hVQ l f h _ _ (fun f h => hk .normal f h) hw
  | sel d q l => exact fun f h K K' hk hw => hRQ _ _ _ _ _ (fun v h' hq => hVQ l _ h' _ _ (fun f h => hk .normal f h) hq) hw
  | drw l => exact fun f h K K' hk hw => hVD l _ _ f h _ _ (fun f h => hk .normal f h) hw
  | seq a b iha ihb =>
    intro f h K K' hk hw
    refine iha f h _ _ ?_ hw
    intro e f h hq
    cases e with
    | normal => exact ihb f h _ _ hk hq
    | exit i => exact hk _ _ _ hq
    | ret => exact hk _ _ _ hq
  | cond c x y ihx ihy =>
    intro f h K K' hk hw
    simp only [WC, xc] at hw ⊢
    split at hw
    · split at hw
      · rename_i hc; rw [if_pos hc]; exact ihx f h _ _ hk hw
      · rename_i hc; rw [if_neg hc]; exact ihy f h _ _ hk hw
    · exact hw.elim
  | block id c ih =>
    intro f h K K' hk hw
    refine ih f h _ _ ?_ hw
    intro e f h hq
    cases e with
    | normal => exact hk _ _ _ hq
    | ret => exact hk _ _ _ hq
    | exit i =>
      simp only [aft] at hq ⊢
      split at hq
      · rename_i hi; rw [if_pos hi]; exact hk _ _ _ hq
      · rename_i hi; rw [if_neg hi]; exact hk _ _ _ hq
  | loop c ih =>
    intro f h K K' hk hw
    intro X hX
    refine hw X fun f h hq => hX f h (ih f h _ _ ?_ hq)
    intro e f h hq
    cases e with
    | normal => exact hq
    | exit i => exact hk _ _ _ hq
    | ret => exact hk _ _ _ hq
  | exit id => exact fun f h K K' hk hw => hk _ _ _ hw
  | ret => exact fun f h K K' hk hw => hk _ _ _ hw
  | bad => exact fun f h K K' hk hw => hw

/-- a loop, by an invariant and a measure -/
theorem WC_loop {c : VCd} {f : Fr} {h : AHeap} {K : AExit → Fr → AHeap → Prop} (I : Fr → AHeap → Prop) (μ : Fr → AHeap → Nat) (h0 : I f h)
    (hr : ∀ f h, I f h → WC P G ov c f h (nxt (fun f' h' => I f' h' ∧ μ f' h' < μ f h) K)) : WC P G ov (.loop c) f h K := by
  intro X hX
  have key : ∀ n f h, μ f h = n → I f h → X f h := by
    intro n
    induction n using Nat.strongRecOn with
    | _ n ih =>
      intro f h hn hi
      refine hX f h (WC_mono c f h _ _ ?_ (hr f h hi))
      intro e f' h' hq
      cases e with
      | normal => exact ih _ (by rw [← hn]; exact hq.2) f' h' rfl hq.1
      | exit i => exact hq
      | ret => exact hq
  exact key _ f h rfl h0
/-- one round of a loop -/
theorem WC_round {c : VCd} {f : Fr} {h : AHeap} {K : AExit → Fr → AHeap → Prop} (hr : WC P G ov c f h (nxt (fun f' h' => WC P G ov (.loop c) f' h' K) K)) : WC P G ov (.loop c) f h K := by
  intro X hX
  refine hX f h (WC_mono c f h _ _ ?_ hr)
  intro e f' h' hq
  cases e with
  | normal => exact hq X hX
  | exit i => exact hq
  | ret => exact hq

/-- A CALL, by its body, all worked out -/
theorem FW_run {g : FuncId} {fn : Func} {c : Code} {v : VCd} {rs : List RV} {args : List AV} (hf : P.funcs[g]? = some fn) (hb : fn.body = some c)
    (hn : fn.ntmps = N) (hrs : rres P fn.results.toList = some rs) (hv : vcode P G N c = v) (ha : args.length ≤ N) (hov : ov g = none)
    (hw : WC P G ov v (ini args) h (fnr rs K)) : FW P G ov g args h K :=
  FW_code hov hf hb hn rfl hv ha (WC_mono v _ h _ _ (fun e f h => fnr_fin hrs e) hw)

theorem FW_eq {g : FuncId} {args : List AV} {v : AV} {h' : AHeap} (hw : FW P G ov g args h fun u h'' => u = v ∧ h'' = h') (K : AV → AHeap → Prop) : FW P G ov g args h K = K v h' := by
  obtain ⟨n, u, h'', hr, rfl, rfl⟩ := hw
  apply propext
  constructor
  · rintro ⟨m, u', h', hr', hk⟩
    have h1 := acall_le (show n ≤ n + m by omega) _ _ _ _ hr
    have h2 := acall_le (show m ≤ n + m by omega) _ _ _ _ hr'
    rw [h1] at h2
    simp only [Option.some.injEq, Prod.mk.injEq] at h2
    obtain ⟨rfl, rfl⟩ := h2
    exact hk
  · exact fun hk => ⟨n, u, h'', hr, hk⟩

/-! ### small laws for the walk -/
theorem fnr_ret (rs : List RV) : fnr rs K .ret f h = xr (rvr h f rs) K := by rfl
theorem fnr_normal (rs : List RV) : fnr rs K .normal f h = xr (rvr h f rs) K := by rfl
theorem rvr_nil : rvr h f [] = some (.tuple [], h) := by rfl
theorem rvr_t (a : Nat) : rvr h f [.t a] = some (f a, h) := by rfl
theorem rvr_tt (a b : Nat) : rvr h f [.t a, .t b] = some (.tuple [f a, f b], h) := by rfl
theorem rvr_c (a : Nat) : rvr h f [.c1 a] = (rv1 h f (.c1 a)).map (·, h) := by
  simp only [rvr, rvL]; cases rv1 h f (.c1 a) <;> rfl
theorem rvr_cN (a n : Nat) : rvr h f [.cN a n] = (rv1 h f (.cN a n)).map (·, h) := by
  simp only [rvr, rvL]; cases rv1 h f (.cN a n) <;> rfl
theorem rvr_2 (x y : RV) : rvr h f [x, y] = match rv1 h f x, rv1 h f y with | some v, some u => some (.tuple [v, u], h) | _, _ => none := by
  simp only [rvr, rvL]; cases rv1 h f x <;> cases rv1 h f y <;> rfl
end
end Go.Sv
namespace Go.Sv
open Go Go.RowKit Go.Sx

/-! ### memory -/
section
variable {h : AHeap} {i j : Nat} {o o' : AObj}
theorem get_set_self' (hi : i < h.n) : (h.set i o).get i = some o := AHeap.get_set_self _ _ _ hi
theorem get_alloc_of (hj : h.get j = some o') (o : AObj) : (h.alloc o).get j = some o' := by
  rw [AHeap.get_alloc_ne _ _ (Nat.ne_of_lt (AHeap.get_lt hj))]; exact hj
theorem get_set_of (hj : h.get j = some o') (hne : j ≠ i) : (h.set i o).get j = some o' := by
  rw [AHeap.get_set_ne _ _ hne]; exact hj

theorem cells_int (k : IntKind) (n : Int) : (AV.int k n).cells = [.int k n] := by rfl
theorem cells_bool (b : Bool) : (AV.bool b).cells = [.bool b] := by rfl
theorem cells_ptr (p : Option (Nat × Nat)) : (AV.ptr p).cells = [.ptr p] := by rfl
theorem cells_slice (a : Option (Nat × Nat)) (l c : Nat) (z : Option Nat) (op : Bool) : (AV.slice a l c z op).cells = [.slice a l c z op] := by rfl
theorem cells_map (p : Option Nat) : (AV.map p).cells = [.map p] := by rfl
theorem cells_chan (p : Option Nat) : (AV.chan p).cells = [.chan p] := by rfl
theorem cells_func (f : FuncId) (a b : List AV) : (AV.func f a b).cells = [.func f a b] := by rfl
theorem cells_agg (l : List AV) : (AV.agg l).cells = l := by rfl
theorem cells_str (s : ByteArray) : (AV.str s).cells = [.str s] := by rfl
theorem cells_iface (t : TypeId) (v : AV) : (AV.iface t v).cells = [.iface t v] := by rfl

theorem cellAt_of {c : List AV} {ro : Bool} {e : Nat} (hg : h.get i = some (.cells c ro e)) (n : Nat) : cellAt h i n = c[n]? := by
  unfold cellAt; rw [hg]
theorem cellsAt_of {c : List AV} {ro : Bool} {e : Nat} (hg : h.get i = some (.cells c ro e)) (o n : Nat) (hn : o + n ≤ c.length) : cellsAt h i o n = some ((c.drop o).take n) := by
  unfold cellsAt; rw [hg]; exact if_pos hn
theorem aput_of {c : List AV} {e : Nat} (hg : h.get i = some (.cells c false e)) {o : Nat} {vs : List AV} (hn : o + vs.length ≤ c.length) (hl : vs.all AV.leaf = true) :
    aput? h i o vs = some (h.set i (.cells (splice c o vs) false e)) := by
  unfold aput?; rw [hg]; exact if_pos ⟨hn, hl⟩

theorem bcat_nil : bcat [] [] = some [] := by rfl
theorem bcat_cons (n : Nat) (z : List AV) (s : List (Nat × List AV)) (v : AV) (vs : List AV) : bcat ((n, z) :: s) (v :: vs) = if v.cells.length = n then (bcat s vs).map fun r => v.cells ++ (z ++ r) else none := by rfl

theorem i64_id {x : Int} (h1 : -9223372036854775808 ≤ x) (h2 : x ≤ 9223372036854775807) : IntKind.i64.wrap x = x := by
  simp only [IntKind.wrap]
  first | omega | (simp [IntKind.bits, IntKind.signed]; omega)
end
end Go.Sv
namespace Go.Sv
open Go Go.RowKit Go.Sx
theorem rint_add (k : IntKind) (a b : Int) : rint .add k a k b = some (.int k (k.wrap (a + b))) := by simp [rint]
theorem rint_sub (k : IntKind) (a b : Int) : rint .sub k a k b = some (.int k (k.wrap (a - b))) := by simp [rint]
theorem rint_mul (k : IntKind) (a b : Int) : rint .mul k a k b = some (.int k (k.wrap (a * b))) := by simp [rint]
theorem rint_quo (k : IntKind) (a b : Int) : rint .quo k a k b = if b = 0 then none else some (.int k (k.wrap (a.tdiv b))) := by simp [rint]
theorem rint_rem (k : IntKind) (a b : Int) : rint .rem k a k b = if b = 0 then none else some (.int k (a.tmod b)) := by simp [rint]
theorem rint_eql (k : IntKind) (a b : Int) : rint .eql k a k b = some (.bool (decide (a = b))) := by
  simp only [rint, if_true]; rw [show (a == b) = decide (a = b) by by_cases h : a = b <;> simp [h]]
theorem rint_neq (k : IntKind) (a b : Int) : rint .neq k a k b = some (.bool (decide (a ≠ b))) := by
  simp only [rint, if_true]; rw [show (a != b) = decide (a ≠ b) by by_cases h : a = b <;> simp [h]]
theorem rint_lss (k : IntKind) (a b : Int) : rint .lss k a k b = some (.bool (decide (a < b))) := by simp [rint]
theorem rint_leq (k : IntKind) (a b : Int) : rint .leq k a k b = some (.bool (decide (a ≤ b))) := by simp [rint]
theorem rint_gtr (k : IntKind) (a b : Int) : rint .gtr k a k b = some (.bool (decide (b < a))) := by simp [rint]
theorem rint_geq (k : IntKind) (a b : Int) : rint .geq k a k b = some (.bool (decide (b ≤ a))) := by simp [rint]
theorem rint_shl (k k' : IntKind) (a b : Int) : rint .shl k a k' b = if b < 0 then none else some (.int k (k.wrap (a * 2 ^ (min b.toNat k.bits)))) := by simp [rint]
theorem rint_shr (k k' : IntKind) (a b : Int) : rint .shr k a k' b = if b < 0 then none else some (.int k (a.fdiv (2 ^ (min b.toNat k.bits)))) := by simp [rint]
theorem F_bin_int (op : BinOp) (h : AHeap) (k k' : IntKind) (a b : Int) : F_bin op h [.int k a, .int k' b] = (rint op k a k' b).map (·, h) := by rfl
theorem F_mv_v (h : AHeap) (v : AV) : F_mv h [v] = some (v, h) := by rfl
theorem F_pick_v (h : AHeap) (b : Bool) (x y : AV) : F_pick h [.bool b, x, y] = some (if b then x else y, h) := by rfl
theorem F_load1_v (h : AHeap) (i o : Nat) : F_load1 h [.ptr (some (i, o))] = (cellAt h i o).map (·, h) := by rfl
theorem F_loadN_v (n : Nat) (h : AHeap) (i o : Nat) : F_loadN n h [.ptr (some (i, o))] = (cellsAt h i o n).map fun cs => (.agg cs, h) := by rfl
theorem F_nilc_v (h : AHeap) (p : Nat × Nat) : F_nilc h [.ptr (some p)] = some (.ptr (some p), h) := by rfl
theorem F_fadr_v (n : Nat) (h : AHeap) (i o : Nat) : F_fadr n h [.ptr (some (i, o))] = some (.ptr (some (i, o + n)), h) := by rfl
theorem F_iadrA_v (n e : Nat) (h : AHeap) (i o : Nat) (k : IntKind) (x : Int) : F_iadrA n e h [.ptr (some (i, o)), .int k x] = if 0 ≤ x ∧ x < n then some (.ptr (some (i, o + x.toNat * e)), h) else none := by rfl
theorem F_iadrS_v (e : Nat) (h : AHeap) (i o len cap : Nat) (op : Bool) (k : IntKind) (x : Int) : F_iadrS e h [.slice (some (i, o)) len cap none op, .int k x] = if 0 ≤ x ∧ x < len then some (.ptr (some (i, o + x.toNat * e)), h) else none := by rfl
theorem F_part1_v (o : Nat) (h : AHeap) (cs : List AV) : F_part1 o h [.agg cs] = (cs[o]?).map (·, h) := by rfl
theorem F_partN_v (o n : Nat) (h : AHeap) (cs : List AV) : F_partN o n h [.agg cs] = some (.agg ((cs.drop o).take n), h) := by rfl
theorem F_ext_v (k : Nat) (h : AHeap) (vs : List AV) : F_ext k h [.tuple vs] = (vs[k]?).map (·, h) := by rfl
theorem F_not_v (h : AHeap) (b : Bool) : F_not h [.bool b] = some (.bool !b, h) := by rfl
theorem F_neg_v (h : AHeap) (k : IntKind) (x : Int) : F_neg h [.int k x] = some (.int k (k.wrap (0 - x)), h) := by rfl
theorem F_toInt_v (k : IntKind) (h : AHeap) (k' : IntKind) (x : Int) : F_toInt k h [.int k' x] = some (.int k (k.wrap x), h) := by rfl
theorem F_isnil_ptr (neg : Bool) (h : AHeap) (a : Option (Nat × Nat)) : F_isnil .ptr neg h [.ptr a] = some (.bool (a.isNone != neg), h) := by rfl
theorem F_isnil_slice (neg : Bool) (h : AHeap) (a : Option (Nat × Nat)) (l c : Nat) (z : Option Nat) (op : Bool) : F_isnil .slice neg h [.slice a l c z op] = some (.bool (a.isNone != neg), h) := by rfl
theorem F_isnil_map (neg : Bool) (h : AHeap) (a : Option Nat) : F_isnil .map neg h [.map a] = some (.bool (a.isNone != neg), h) := by rfl
theorem F_isnil_chan (neg : Bool) (h : AHeap) (a : Option Nat) : F_isnil .chan neg h [.chan a] = some (.bool (a.isNone != neg), h) := by rfl
theorem F_store_v (n : Nat) (h : AHeap) (i o : Nat) (v : AV) : F_store n h [.ptr (some (i, o)), v] = if v.cells.length = n then (aput? h i o v.cells).map fun h' => (.tuple [], h') else none := by rfl
theorem F_box_v (h : AHeap) (v : AV) : F_box h [v] = some (.ptr (some (h.n, 0)), h.alloc (.cells v.cells false 1)) := by rfl
theorem F_alloc_v (z : AV) (h : AHeap) : F_alloc z h [] = some (.ptr (some (h.n, 0)), h.alloc (.cells z.cells false 1)) := by rfl
theorem F_lenS_v (h : AHeap) (a : Option (Nat × Nat)) (l c : Nat) (z : Option Nat) (op : Bool) : F_lenS h [.slice a l c z op] = some (.int .i64 l, h) := by rfl
theorem F_lenA_v (n : Nat) (h : AHeap) (v : AV) : F_lenA n h [v] = some (.int .i64 n, h) := by rfl
theorem F_max_v (h : AHeap) (k k' : IntKind) (a b : Int) : F_max h [.int k a, .int k' b] = some (.int k (max a b), h) := by
  simp only [F_max]; congr 3; rw [Int.max_def]; split <;> split <;> omega
theorem F_min_v (h : AHeap) (k k' : IntKind) (a b : Int) : F_min h [.int k a, .int k' b] = some (.int k (min a b), h) := by
  simp only [F_min]; congr 3; rw [Int.min_def]; split <;> split <;> omega
theorem F_max_3 (h : AHeap) (k k' k'' : IntKind) (a b c : Int) : F_max h [.int k a, .int k' b, .int k'' c] = some (.int k (max (max a b) c), h) := by
  simp only [F_max]; congr 3; rw [Int.max_def, Int.max_def]; repeat' split
  all_goals omega
theorem F_makeMap_v (h : AHeap) : F_makeMap h [] = some (.map (some h.n), h.alloc (.map [])) := by rfl
theorem F_bld_v (z : List AV) (s : List (Nat × List AV)) (h : AHeap) (vs : List AV) : F_bld z s h vs = (bcat s vs).map fun r => (.agg (z ++ r), h) := by rfl
theorem F_bsl_v (size len : Nat) (z : List AV) (s : List (Nat × List AV)) (h : AHeap) (vs : List AV) : F_bsl size len z s h vs = (bcat s vs).map fun r => (.slice (some (h.n, 0)) len len none false, h.alloc (.cells (z ++ r) false size)) := by rfl
theorem F_mki_v (t : TypeId) (h : AHeap) (v : AV) : F_mki t h [v] = some (.iface t v, h) := by rfl
theorem F_asr_v (t : TypeId) (z : AV) (ok : Bool) (h : AHeap) (t' : TypeId) (v : AV) : F_asr t z ok h [.iface t' v] = if t' = t then some (if ok then .tuple [v, .bool true] else v, h) else if ok then some (.tuple [z, .bool false], h) else none := by rfl
theorem F_asr_nil (t : TypeId) (z : AV) (ok : Bool) (h : AHeap) : F_asr t z ok h [.nilIface] = if ok then some (.tuple [z, .bool false], h) else none := by rfl
theorem F_eqB_v (neg : Bool) (h : AHeap) (a b : Bool) : F_eqB neg h [.bool a, .bool b] = some (.bool ((a == b) != neg), h) := by rfl
theorem F_mkf_v (f : FuncId) (k : Nat) (h : AHeap) (vs : List AV) : F_mkf f k h vs = some (.func f (vs.take k) (vs.drop k), h) := by rfl
theorem F_mapU_v (kd : TypeDesc) (h : AHeap) (i : Nat) (k v : AV) : F_mapU kd h [.map (some i), k, v] = match h.get i with
    | some (.map es) =>
      if keyFits kd k then
        match afind k es with
        | some (some (j, _)) => some (.tuple [], h.set i (.map (es.set j (k, v))))
        | some none => some (.tuple [], h.set i (.map (es ++ [(k, v)])))
        | none => none
      else none
    | _ => none := by rfl
theorem omap_some {α β : Type} (f : α → β) (a : α) : Option.map f (some a) = some (f a) := by rfl
theorem omap_ite {α β : Type} (c : Prop) [Decidable c] (f : α → β) (a b : Option α) : Option.map f (if c then a else b) = if c then Option.map f a else Option.map f b := by split <;> rfl
theorem lget_zero {α : Type} (a : α) (l : List α) : (a :: l)[0]? = some a := by rfl
theorem lget_succ {α : Type} (a : α) (l : List α) (n : Nat) : (a :: l)[n + 1]? = l[n]? := by rfl
attribute [go_sem ↓] WC_skip WC_reg WC_sel WC_drw WC_seq WC_cond WC_block WC_exit WC_ret VQ_nil VQ_op VQ_callF VQ_callV VQ_guard VD_nil VD_op VD_chk VD_callF VD_callV VD_guard RQ_op RQ_callV
  aft_normal aft_ret aft_exit nxt_normal nxt_ret nxt_exit kq_at kd_t kd_f kc_f ks_normal ks_exit ks_ret fnr_ret fnr_normal oev_t oev_c oevs_nil oevs_cons fput_some fput_none fset_lk ini_at fgt_at
attribute [go_sem] xc_bool xr_some xr_none xr_ite rvr_nil rvr_t rvr_tt rvr_c rvr_cN rvr_2 rv1 Chk_nil Chk_cons
  F_mv_v F_pick_v F_load1_v F_loadN_v F_nilc_v F_fadr_v F_iadrA_v F_iadrS_v F_part1_v F_partN_v F_ext_v F_bin_int F_not_v F_neg_v F_toInt_v F_isnil_ptr F_isnil_slice F_isnil_map F_isnil_chan F_store_v F_box_v F_alloc_v F_lenS_v F_lenA_v F_max_v F_max_3 F_min_v F_makeMap_v F_bld_v F_bsl_v F_mki_v F_asr_v F_asr_nil F_eqB_v F_mkf_v F_mapU_v
  rint_add rint_sub rint_mul rint_quo rint_rem rint_eql rint_neq rint_lss rint_leq rint_gtr rint_geq rint_shl rint_shr
  cells_int cells_bool cells_ptr cells_slice cells_map cells_chan cells_func cells_agg cells_str cells_iface bcat_nil bcat_cons omap_some omap_ite List.cons_append List.nil_append
end Go.Sv
namespace Go.Sv
open Go Go.RowKit Go.Sx
theorem bne_tt : (true != true) = false := by rfl
theorem bne_tf : (true != false) = true := by rfl
theorem bne_ft : (false != true) = true := by rfl
theorem bne_ff : (false != false) = false := by rfl
theorem beq_tt : (true == true) = true := by rfl
theorem beq_tf : (true == false) = false := by rfl
theorem beq_ft : (false == true) = false := by rfl
theorem beq_ff : (false == false) = true := by rfl
theorem bne_f (b : Bool) : (b != false) = b := by cases b <;> rfl
theorem bne_t (b : Bool) : (b != true) = !b := by cases b <;> rfl
theorem beq_f (b : Bool) : (b == false) = !b := by cases b <;> rfl
theorem beq_t (b : Bool) : (b == true) = b := by cases b <;> rfl
theorem xt (P : Prop) [Decidable P] : (decide P = true) = P := by simp
theorem isNone_some {α : Type} (a : α) : (some a).isNone = false := by rfl
theorem isNone_none {α : Type} : (none : Option α).isNone = true := by rfl
attribute [go_sem] bne_tt bne_tf bne_ft bne_ff beq_tt beq_tf beq_ft beq_ff bne_f bne_t beq_f beq_t isNone_some isNone_none xt Bool.not_true Bool.not_false Bool.false_eq_true Nat.add_zero Nat.zero_add List.getD_cons_zero List.getD_cons_succ List.getElem?_cons_zero List.getElem?_cons_succ decide_true decide_false if_true if_false Bool.not_eq_true' decide_eq_false_iff_not List.length_cons List.length_nil true_and and_true
end Go.Sv
namespace Go.Sv
open Go Go.RowKit Go.Sx
theorem aput_whole {h : AHeap} {i : Nat} {c : List AV} {e : Nat} (hg : h.get i = some (.cells c false e)) {vs : List AV} (hn : vs.length = c.length) (hl : vs.all AV.leaf = true) :
    aput? h i 0 vs = some (h.set i (.cells vs false e)) := by
  rw [aput_of hg (by omega) hl]
  unfold splice
  rw [List.take_zero, List.nil_append, List.drop_of_length_le (by omega), List.append_nil]
theorem splice_eq (c : List AV) (o : Nat) (vs : List AV) : splice c o vs = c.take o ++ vs ++ c.drop (o + vs.length) := by rfl
theorem leaf_int (k : IntKind) (n : Int) : (AV.int k n).leaf = true := by rfl
theorem leaf_bool (b : Bool) : (AV.bool b).leaf = true := by rfl
theorem leaf_ptr (p : Option (Nat × Nat)) : (AV.ptr p).leaf = true := by rfl
theorem leaf_slice (a : Option (Nat × Nat)) (l c : Nat) (z : Option Nat) (op : Bool) : (AV.slice a l c z op).leaf = true := by rfl
theorem leaf_map (p : Option Nat) : (AV.map p).leaf = true := by rfl
theorem leaf_chan (p : Option Nat) : (AV.chan p).leaf = true := by rfl
theorem leaf_func (f : FuncId) (a b : List AV) : (AV.func f a b).leaf = true := by rfl
theorem leaf_str (s : ByteArray) : (AV.str s).leaf = true := by rfl
theorem leaf_iface (t : TypeId) (v : AV) : (AV.iface t v).leaf = true := by rfl
attribute [go_sem] leaf_int leaf_bool leaf_ptr leaf_slice leaf_map leaf_chan leaf_func leaf_str leaf_iface List.all_cons List.all_nil Bool.and_self Bool.and_true splice_eq List.take_succ_cons List.take_zero List.drop_succ_cons List.drop_zero
end Go.Sv
namespace Go.Sv
open Go Go.RowKit Go.Sx
theorem get_alloc_eq {h : AHeap} {i : Nat} (hi : i = h.n) (o : AObj) : (h.alloc o).get i = some o := by subst hi; exact AHeap.get_alloc_self _ _
theorem get_alloc_lt {h : AHeap} {i : Nat} (hi : i ≠ h.n) (o : AObj) : (h.alloc o).get i = h.get i := AHeap.get_alloc_ne _ _ hi
theorem get_set_eq {h : AHeap} {i j : Nat} (hi : j = i) (hl : i < h.n) (o : AObj) : (h.set i o).get j = some o := by subst hi; exact AHeap.get_set_self _ _ _ hl
theorem get_set_lt {h : AHeap} {i j : Nat} (hi : j ≠ i) (o : AObj) : (h.set i o).get j = h.get j := AHeap.get_set_ne _ _ hi
theorem ncast (n : Nat) : (Nat.cast (no_index (OfNat.ofNat n)) : Int) = OfNat.ofNat n := by rfl
attribute [go_sem] AHeap.n_alloc AHeap.n_set ne_eq not_true_eq_false not_false_eq_true ncast Nat.add_assoc
end Go.Sv
attribute [go_sem] false_or or_false true_or or_true Nat.lt_irrefl Nat.not_lt_zero
namespace Go.Sv
open Go Go.RowKit Go.Sx

/-! ### what memory keeps -/
def Keep (M : List Nat) (h h' : AHeap) : Prop := h.n ≤ h'.n ∧ ∀ i o, h.get i = some o → i ∉ M → h'.get i = some o

section
variable {M M' : List Nat} {h h' h'' : AHeap} {i : Nat} {o : AObj}
theorem Keep.refl (M : List Nat) (h : AHeap) : Keep M h h := ⟨Nat.le_refl _, fun _ _ hi _ => hi⟩
theorem Keep.get (k : Keep M h h') (hi : h.get i = some o) (hm : i ∉ M) : h'.get i = some o := k.2 i o hi hm
theorem Keep.alloc (k : Keep M h h') (o : AObj) : Keep M h (h'.alloc o) := ⟨Nat.le_succ_of_le k.1, fun i q hi hm => get_alloc_of (k.2 i q hi hm) o⟩
theorem Keep.set (k : Keep M h h') (o : AObj) (hi : i ∈ M ∨ h.n ≤ i) : Keep M h (h'.set i o) :=
  ⟨k.1, fun j q hj hm => get_set_of (k.2 j q hj hm) (by
    rintro rfl
    rcases hi with hi | hi
    · exact hm hi
    · exact Nat.lt_irrefl _ (Nat.lt_of_lt_of_le (AHeap.get_lt hj) hi))⟩
theorem Keep.trans (k : Keep M h h') (k' : Keep M' h' h'') : Keep (M ++ M') h h'' :=
  ⟨Nat.le_trans k.1 k'.1, fun i o hi hm => k'.2 i o (k.2 i o hi (fun h => hm (List.mem_append_left _ h))) (fun h => hm (List.mem_append_right _ h))⟩
theorem Keep.mono (k : Keep M h h') (hm : ∀ i ∈ M, i ∈ M' ∨ h.n ≤ i) : Keep M' h h' :=
  ⟨k.1, fun i o hi hn => k.2 i o hi (fun h => by
    rcases hm i h with h1 | h1
    · exact hn h1
    · exact Nat.lt_irrefl _ (Nat.lt_of_lt_of_le (AHeap.get_lt hi) h1))⟩
theorem Keep.trans0 (k : Keep [] h h') (k' : Keep M h' h'') : Keep M h h'' := (k.trans k').mono (fun i hi => .inl hi)
theorem Keep.then0 (k : Keep M h h') (k' : Keep [] h' h'') : Keep M h h'' := (k.trans k').mono (fun i hi => .inl (by simpa using hi))
end

/-! ### slices -/
/-- v is a slice of n things, whose cells are cs; the row lies in one of ids -/
def Sl (h : AHeap) (esz : Nat) (v : AV) (n : Nat) (cs : List AV) (ids : List Nat) : Prop :=
  ∃ a cap z op, v = .slice a n cap z op ∧ (z.isSome = true → cap = 0) ∧ n ≤ cap ∧ (a = none → cap = 0 ∧ z = none ∧ op = false) ∧
    ((n = 0 ∧ cs = []) ∨ ∃ i off c ro e, a = some (i, off) ∧ z = none ∧ i ∈ ids ∧ h.get i = some (.cells c ro e) ∧ off + n * esz ≤ c.length ∧ cs = (c.drop off).take (n * esz))

section
variable {h h' : AHeap} {esz n : Nat} {v : AV} {cs : List AV} {ids ids' M : List Nat}
theorem Sl.keep (s : Sl h esz v n cs ids) (k : Keep M h h') (hd : ∀ i ∈ M, i ∉ ids) : Sl h' esz v n cs ids := by
  obtain ⟨a, cap, z, op, h1, h2, h2a, h3, h4⟩ := s
  refine ⟨a, cap, z, op, h1, h2, h2a, h3, ?_⟩
  rcases h4 with h4 | ⟨i, off, c, ro, e, h5, h6, h7, h8, h9⟩
  · exact .inl h4
  · exact .inr ⟨i, off, c, ro, e, h5, h6, h7, k.get h8 (fun hm => hd i hm h7), h9⟩
theorem Sl.mono (s : Sl h esz v n cs ids) (hm : ∀ i ∈ ids, i ∈ ids') : Sl h esz v n cs ids' := by
  obtain ⟨a, cap, z, op, h1, h2, h2a, h3, h4⟩ := s
  refine ⟨a, cap, z, op, h1, h2, h2a, h3, ?_⟩
  rcases h4 with h4 | ⟨i, off, c, ro, e, h5, h6, h7, h8, h9⟩
  · exact .inl h4
  · exact .inr ⟨i, off, c, ro, e, h5, h6, hm i h7, h8, h9⟩
theorem Sl.len (s : Sl h esz v n cs ids) : F_lenS h [v] = some (.int .i64 n, h) := by
  obtain ⟨a, cap, z, op, rfl, _⟩ := s
  rfl
theorem Sl.lenAt (s : Sl h esz v n cs ids) (h' : AHeap) : F_lenS h' [v] = some (.int .i64 n, h') := by
  obtain ⟨a, cap, z, op, rfl, _⟩ := s
  rfl
theorem Sl.cells_len (s : Sl h esz v n cs ids) : cs.length = n * esz := by
  obtain ⟨a, cap, z, op, h1, h2, h2a, h3, h4⟩ := s
  rcases h4 with ⟨rfl, rfl⟩ | ⟨i, off, c, ro, e, h5, h6, h7, h8, h9, rfl⟩
  · simp
  · simp; omega
theorem Sl.nil (h : AHeap) (esz : Nat) (ids : List Nat) : Sl h esz (.slice none 0 0 none false) 0 [] ids := ⟨none, 0, none, false, rfl, by simp, Nat.le_refl _, fun _ => ⟨rfl, rfl, rfl⟩, .inl ⟨rfl, rfl⟩⟩
theorem Sl.isnil (s : Sl h esz v n cs ids) (h' : AHeap) (neg : Bool) : ∃ b, F_isnil .slice neg h' [v] = some (.bool (b != neg), h') ∧ (b = true → n = 0 ∧ cs = [] ∧ v = .slice none 0 0 none false) := by
  obtain ⟨a, cap, z, op, rfl, h2, h2a, h3, h4⟩ := s
  refine ⟨a.isNone, rfl, fun hb => ?_⟩
  simp only [Option.isNone_iff_eq_none] at hb
  subst hb
  obtain ⟨rfl, rfl, rfl⟩ := h3 rfl
  have hn : n = 0 := by omega
  subst hn
  rcases h4 with ⟨_, rfl⟩ | ⟨i, off, c, ro, e, h5, _⟩
  · exact ⟨rfl, rfl, rfl⟩
  · cases h5
/-- as a source -/
theorem Sl.source (s : Sl h esz v n cs ids) {h' : AHeap} (k : Keep M h h') (hd : ∀ i ∈ M, i ∉ ids) : asource h' esz v n = some cs := by
  obtain ⟨a, cap, z, op, rfl, h2, h2a, h3, h4⟩ := s
  unfold asource
  by_cases hn : n = 0
  · subst hn
    simp only [if_true]
    rcases h4 with ⟨_, rfl⟩ | ⟨i, off, c, ro, e, h5, h6, h7, h8, h9, rfl⟩
    · rfl
    · simp
  · simp only [if_neg hn]
    rcases h4 with ⟨h4, _⟩ | ⟨i, off, c, ro, e, h5, h6, h7, h8, h9, rfl⟩
    · exact absurd h4 hn
    · subst h5 h6
      exact cellsAt_of (k.get h8 (fun hm => hd i hm h7)) _ _ h9
theorem Sl.aslen (s : Sl h esz v n cs ids) : aslen v = some n := by
  obtain ⟨a, cap, z, op, rfl, _⟩ := s
  rfl
/-- append(nil, x...) and append([]T{}, x...) -/
theorem app_nil (s : Sl h esz v n cs ids) (k : Keep M h h') (hd : ∀ i ∈ M, i ∉ ids) {bytes : Nat} (hb : bytes ≤ 2 ^ 30) (hn : n ≤ 2 ^ 40) (hnb : n * bytes ≤ 2 ^ 40) :
    ∃ u h'', F_app esz bytes h' [.slice none 0 0 none false, v] = some (u, h'') ∧ Keep [] h' h'' ∧ Sl h'' esz u n cs [h'.n] := by
  simp only [F_app, s.aslen, s.source k hd, Nat.zero_add]
  by_cases h0 : n = 0
  · subst h0
    rw [if_pos (Nat.le_refl _), if_pos rfl]
    have hc : cs = [] := List.eq_nil_of_length_eq_zero (by rw [s.cells_len]; simp)
    subst hc
    exact ⟨_, _, rfl, Keep.refl _ _, Sl.nil _ _ _⟩
  · rw [if_neg (by omega), if_pos ⟨hn, hb, hnb⟩]
    have h00 : asource h' esz (.slice none 0 0 none false) 0 = some [] := rfl
    rw [h00]
    refine ⟨_, _, rfl, (Keep.refl _ _).alloc _, some (h'.n, 0), n, none, true, rfl, by simp, Nat.le_refl _, nofun, .inr ⟨h'.n, 0, _, _, _, rfl, rfl, List.mem_singleton.2 rfl, AHeap.get_alloc_self _ _, ?_, ?_⟩⟩
    · rw [List.nil_append, s.cells_len]; omega
    · rw [List.nil_append, List.drop_zero, List.take_of_length_le (by rw [s.cells_len]; omega)]
theorem app_empty (s : Sl h esz v n cs ids) (k : Keep M h h') (hd : ∀ i ∈ M, i ∉ ids) {j : Nat} {c : List AV} {bytes : Nat} (hj : h'.get j = some (.cells c false esz)) (hb : bytes ≤ 2 ^ 30) (hn : n ≤ 2 ^ 40) (hnb : n * bytes ≤ 2 ^ 40) :
    ∃ u h'', F_app esz bytes h' [.slice (some (j, 0)) 0 0 none false, v] = some (u, h'') ∧ Keep [] h' h'' ∧ Sl h'' esz u n cs [h'.n] := by
  simp only [F_app, s.aslen, s.source k hd, Nat.zero_add]
  by_cases h0 : n = 0
  · subst h0
    rw [if_pos (Nat.le_refl _), if_pos rfl]
    have hc : cs = [] := List.eq_nil_of_length_eq_zero (by rw [s.cells_len]; simp)
    subst hc
    exact ⟨_, _, rfl, Keep.refl _ _, some (j, 0), 0, none, false, rfl, by simp, Nat.le_refl _, nofun, .inl ⟨rfl, rfl⟩⟩
  · rw [if_neg (by omega), if_pos ⟨hn, hb, hnb⟩]
    have h00 : asource h' esz (.slice (some (j, 0)) 0 0 none false) 0 = some [] := rfl
    rw [h00]
    refine ⟨_, _, rfl, (Keep.refl _ _).alloc _, some (h'.n, 0), n, none, true, rfl, by simp, Nat.le_refl _, nofun, .inr ⟨h'.n, 0, _, _, _, rfl, rfl, List.mem_singleton.2 rfl, AHeap.get_alloc_self _ _, ?_, ?_⟩⟩
    · rw [List.nil_append, s.cells_len]; omega
    · rw [List.nil_append, List.drop_zero, List.take_of_length_le (by rw [s.cells_len]; omega)]
end

/-- a slice of whole numbers -/
abbrev SlI (h : AHeap) (v : AV) (xs : List Int) (ids : List Nat) : Prop := Sl h 1 v xs.length (xs.map (.int .i64)) ids
end Go.Sv
namespace Go.Sv
open Go Go.RowKit Go.Sx
theorem flat_drop {A : Type} {enc : A → List AV} {esz : Nat} (hl : ∀ a, (enc a).length = esz) : ∀ (ps : List A) (k : Nat) (p : A), ps[k]? = some p → ((ps.flatMap enc).drop (k * esz)).take esz = enc p
  | [], k, p, h => by simp at h
  | x :: ps, 0, p, h => by
    simp at h; subst h
    rw [List.flatMap_cons, Nat.zero_mul, List.drop_zero, ← hl x, List.take_left]
  | x :: ps, k + 1, p, h => by
    rw [List.getElem?_cons_succ] at h
    rw [List.flatMap_cons, Nat.succ_mul, Nat.add_comm, ← List.drop_drop, ← hl x, List.drop_left, hl x]
    exact flat_drop hl ps k p h
theorem flat_len {A : Type} {enc : A → List AV} {esz : Nat} (hl : ∀ a, (enc a).length = esz) : ∀ (ps : List A), (ps.flatMap enc).length = ps.length * esz
  | [] => by simp
  | x :: ps => by rw [List.flatMap_cons, List.length_append, hl, flat_len hl ps, List.length_cons, Nat.succ_mul, Nat.add_comm]

/-- one thing of a slice -/
theorem Sl.elem {A : Type} {enc : A → List AV} {h : AHeap} {esz n : Nat} {v : AV} {ids : List Nat} {ps : List A} (s : Sl h esz v n (ps.flatMap enc) ids) (hl : ∀ a, (enc a).length = esz) (he : 0 < esz) {k : Nat} {p : A} (hp : ps[k]? = some p) :
    ∃ j off cap op c ro e, v = .slice (some (j, off)) n cap none op ∧ j ∈ ids ∧ h.get j = some (.cells c ro e) ∧ off + k * esz + esz ≤ c.length ∧ (c.drop (off + k * esz)).take esz = enc p ∧ k < n ∧ n = ps.length ∧
      ∀ q, q < esz → c[off + (k * esz + q)]? = (enc p)[q]? := by
  obtain ⟨a, cap, z, op, h1, h2, h2a, h3, h4⟩ := s
  have hk := (List.getElem?_eq_some_iff.1 hp).1
  have hfl := flat_len hl ps
  rcases h4 with ⟨h4, h5⟩ | ⟨i, off, c, ro, e, h5, h6, h7, h8, h9, h10⟩
  · rw [h5] at hfl
    have hm : 0 < ps.length * esz := Nat.mul_pos (by omega) he
    simp at hfl
    omega
  · subst h5 h6
    have hn : n * esz = ps.length * esz := by
      rw [← hfl, h10]; simp; omega
    have hn' : n = ps.length := Nat.eq_of_mul_eq_mul_right he hn
    have hmul : k * esz + esz ≤ n * esz := by
      rw [← Nat.succ_mul]; exact Nat.mul_le_mul_right _ (by omega)
    have hd : (c.drop (off + k * esz)).take esz = enc p := by
      have := flat_drop hl ps k p hp
      rw [h10, List.drop_take, List.take_take, List.drop_drop] at this
      rw [Nat.min_eq_left (by omega)] at this
      exact this
    refine ⟨i, off, cap, op, c, ro, e, h1, h7, h8, by omega, hd, by omega, hn', ?_⟩
    intro q hq
    rw [← hd, List.getElem?_take, if_pos hq, List.getElem?_drop]
    congr 1
    omega
end Go.Sv
theorem Go.Sv.Sl.leaf {h : Go.Sx.AHeap} {esz n : Nat} {v : Go.Sx.AV} {cs : List Go.Sx.AV} {ids : List Nat} (s : Go.Sv.Sl h esz v n cs ids) : v.leaf = true := by
  obtain ⟨a, cap, z, op, rfl, _⟩ := s
  rfl
namespace Go.Sx
open Go Go.RowKit Go.ChangeShapes Go.WideShapes

/-! ### arguments as objects that are only read -/
def ROnly (h : AHeap) : Prop := ∀ i o, h.get i = some o → o.own = false
def Grow (h h' : AHeap) : Prop := h.n ≤ h'.n ∧ ∀ i o, h.get i = some o → h'.get i = some o
theorem Grow.refl (h : AHeap) : Grow h h := ⟨Nat.le_refl _, fun _ _ h => h⟩
theorem Grow.trans {a b c : AHeap} (x : Grow a b) (y : Grow b c) : Grow a c := ⟨Nat.le_trans x.1 y.1, fun i o h => y.2 i o (x.2 i o h)⟩
theorem Grow.alloc (h : AHeap) (o : AObj) : Grow h (h.alloc o) := ⟨Nat.le_succ _, fun i q hi => by
  rw [AHeap.get_alloc_ne _ _ (Nat.ne_of_lt (AHeap.get_lt hi))]; exact hi⟩

section
variable {N : Nat} {G : Nat → Option Nat} {ρ : Env} {h : AHeap} {w : World}

theorem R.allocRo (r : R N G ρ h w) (ro : ROnly h) (p : Place) {o : AObj} (ho : o.own = false) (hws : o.ws (below h.n)) (hlow : o.ro = true → p.b < N) (hf : Fits (upd ρ h.n p) w h.n o) :
    R N G (upd ρ h.n p) (h.alloc o) w ∧ ROnly (h.alloc o) := by
  have hext := Ext.upd ρ h.n p
  have hget : ∀ i o', (h.alloc o).get i = some o' → (i = h.n ∧ o' = o) ∨ (i ≠ h.n ∧ h.get i = some o') := fun i o' hi => by
    by_cases e : i = h.n
    · subst e; rw [AHeap.get_alloc_self] at hi; exact .inl ⟨rfl, (Option.some.inj hi).symm⟩
    · rw [AHeap.get_alloc_ne _ _ e] at hi; exact .inr ⟨e, hi⟩
  have hro' : ROnly (h.alloc o) := by
    intro i o' hi
    rcases hget i o' hi with ⟨rfl, rfl⟩ | ⟨_, hi⟩
    · exact ho
    · exact ro i o' hi
  refine ⟨⟨fun i o' hi => AHeap.get_lt hi, ?_, ?_, ?_, ?_, ?_, r.base, ?_⟩, hro'⟩
  · intro i o' hi
    rcases hget i o' hi with ⟨rfl, rfl⟩ | ⟨_, hi⟩
    · exact AObj.ws_mono (fun j hj => Nat.lt_succ_of_lt hj) _ hws
    · exact AObj.ws_mono (fun j hj => Nat.lt_succ_of_lt hj) _ (r.ws i o' hi)
  · intro i o' hi
    rcases hget i o' hi with ⟨rfl, rfl⟩ | ⟨hne, hi⟩
    · exact hf
    · have h1 := r.fits i o' hi
      have h2 := ro i o' hi
      have h3 := AHeap.get_lt hi
      have hws := r.ws i o' hi
      cases o' with
      | cells c rr e =>
        cases rr with
        | true =>
          intro j v hj
          rw [pAddr_ext hext h3, den_ext hext v (wsL_get hws hj)]
          exact h1 j v hj
        | false => simp [AObj.own, AObj.live, AObj.ro] at h2
      | map es => simp [AObj.own, AObj.live, AObj.ro] at h2
      | chan c b => simp [AObj.own, AObj.live, AObj.ro] at h2
      | dead => trivial
  · intro i o' hi hro
    rcases hget i o' hi with ⟨rfl, rfl⟩ | ⟨hne, hi⟩
    · rw [upd_self]; exact hlow hro
    · rw [upd_ne _ _ hne]; exact r.low i o' hi hro
  · intro i o' hi hown
    rw [hro' i o' hi] at hown; cases hown
  · intro i j o' q hi hj hne hown
    rw [hro' i o' hi] at hown; cases hown
  · intro g i hg
    obtain ⟨h1, h2⟩ := r.glob g i hg
    rw [upd_ne _ _ (Nat.ne_of_lt h1)]
    exact ⟨Nat.lt_succ_of_lt h1, h2⟩
end

/-- cells that follow each other, each as its type is -/
def HasSeq (P : Program) (H : TypeId → List AV → Prop) : List TypeId → List AV → Prop
  | [], cs => cs = []
  | t :: ts, cs => P.cellsOf t ≤ cs.length ∧ H t (cs.take (P.cellsOf t)) ∧ HasSeq P H ts (cs.drop (P.cellsOf t))

def HasC (P : Program) (h : AHeap) : Nat → TypeId → List AV → Prop
  | 0, _, _ => False
  | n + 1, t, cs => match P.underlying t with
    | some .bool => ∃ b, cs = [.bool b]
    | some (.int k) => ∃ x, cs = [.int k x] ∧ (Lit.int k x).wf = true
    | some (.slice e) => cs = [.slice none 0 0 none false] ∨ ∃ i len cap, cs = [.slice (some (i, 0)) len cap none false] ∧ len ≤ cap ∧ (len = 0 ∨ ∃ c, h.get i = some (.cells c true 1) ∧ HasSeq P (HasC P h n) (List.replicate len e) c)
    | some (.struct fs) => HasSeq P (HasC P h n) (fs.toList.map (·.type)) cs
    | some (.array m e) => HasSeq P (HasC P h n) (List.replicate m e) cs
    | _ => False

def contig (P : Program) : Nat → List Field → Bool
  | _, [] => true
  | off, f :: fs => (f.offset == off) && contig P (off + P.cellsOf f.type) fs
def sumC (P : Program) : List TypeId → Nat
  | [] => 0
  | t :: ts => P.cellsOf t + sumC P ts

/-- plain data -/
def plainT (P : Program) : Nat → TypeId → Bool
  | 0, _ => false
  | n + 1, t => match P.underlying t with
    | some .bool => P.cellsOf t == 1
    | some (.int _) => P.cellsOf t == 1
    | some (.slice e) => plainT P n e && (P.cellsOf t == 1) && decide (0 < P.cellsOf e)
    | some (.struct fs) => contig P 0 fs.toList && (sumC P (fs.toList.map (·.type)) == P.cellsOf t) && fs.toList.all fun f => plainT P n f.type
    | some (.array m e) => plainT P n e && (m * P.cellsOf e == P.cellsOf t)
    | _ => false

theorem HasSeq.mono {P : Program} {H H' : TypeId → List AV → Prop} (hm : ∀ t cs, H t cs → H' t cs) : ∀ {ts : List TypeId} {cs : List AV}, HasSeq P H ts cs → HasSeq P H' ts cs
  | [], _, h => h
  | _ :: _, _, h => ⟨h.1, hm _ _ h.2.1, HasSeq.mono hm h.2.2⟩

theorem HasC.grow {P : Program} {h h' : AHeap} (g : Grow h h') : ∀ {n : Nat} {t : TypeId} {cs : List AV}, HasC P h n t cs → HasC P h' n t cs
  | 0, _, _, hc => hc.elim
  | n + 1, t, cs, hc => by
    unfold HasC at hc ⊢
    split at hc
    · exact hc
    · exact hc
    · rcases hc with hc | ⟨i, len, cap, h1, h2, h3⟩
      · exact .inl hc
      · refine .inr ⟨i, len, cap, h1, h2, ?_⟩
        rcases h3 with h3 | ⟨c, h3, h4⟩
        · exact .inl h3
        · exact .inr ⟨c, g.2 _ _ h3, h4.mono fun _ _ => HasC.grow g⟩
    · exact hc.mono fun _ _ => HasC.grow g
    · exact hc.mono fun _ _ => HasC.grow g
    · exact hc

section
variable {H : Type} {enc : TypeId × Value → H} {P : Program} {W : World} {G : Nat → Option Nat}

def Br (enc : TypeId × Value → H) (P : Program) (W : World) (G : Nat → Option Nat) (n : Nat) (t : TypeId) : Prop :=
  ∀ (fuel : Nat) (cs : List Value) (x : DataW H × List MemPlace), DataW.trod enc P W 0 (fun _ => true) true fuel t cs = some x → cs.length = P.cellsOf t ∧
    ∀ (h : AHeap) (ρ : Env), R W.heap.size G ρ h W → ROnly h →
    ∃ (h' : AHeap) (ρ' : Env) (avs : List AV), R W.heap.size G ρ' h' W ∧ ROnly h' ∧ Grow h h' ∧ Ext (below h.n) ρ ρ' ∧ AV.denL ρ' avs = cs ∧ AV.wsL (below h'.n) avs ∧ HasC P h' n t avs

def TSeq (enc : TypeId × Value → H) (P : Program) (W : World) : List TypeId → List Value → Prop
  | [], cs => cs = []
  | t :: ts, cs => P.cellsOf t ≤ cs.length ∧ (∃ fuel x, DataW.trod enc P W 0 (fun _ => true) true fuel t (cs.take (P.cellsOf t)) = some x) ∧ TSeq enc P W ts (cs.drop (P.cellsOf t))

theorem denL_length (ρ : Env) (a : List AV) : (AV.denL ρ a).length = a.length := by simp [denL_map]

theorem bridge_seq {n : Nat} : ∀ (ts : List TypeId), (∀ t ∈ ts, Br enc P W G n t) → ∀ cs, TSeq enc P W ts cs → ∀ (h : AHeap) (ρ : Env), R W.heap.size G ρ h W → ROnly h →
    ∃ (h' : AHeap) (ρ' : Env) (avs : List AV), R W.heap.size G ρ' h' W ∧ ROnly h' ∧ Grow h h' ∧ Ext (below h.n) ρ ρ' ∧ AV.denL ρ' avs = cs ∧ AV.wsL (below h'.n) avs ∧ HasSeq P (HasC P h' n) ts avs
  | [], _, cs, hs, h, ρ, r, ro => by
    have hs' : cs = [] := hs
    subst hs'
    exact ⟨h, ρ, [], r, ro, Grow.refl _, Ext.refl _ _, rfl, trivial, rfl⟩
  | t :: ts, hb, cs, hs, h, ρ, r, ro => by
    obtain ⟨hle, ⟨fuel, x, hx⟩, hrest⟩ := hs
    obtain ⟨hlen, hbr⟩ := hb t (List.mem_cons_self ..) fuel _ x hx
    obtain ⟨h1, ρ1, a1, r1, ro1, g1, e1, d1, w1, c1⟩ := hbr h ρ r ro
    obtain ⟨h2, ρ2, a2, r2, ro2, g2, e2, d2, w2, c2⟩ := bridge_seq ts (fun t ht => hb t (List.mem_cons_of_mem _ ht)) _ hrest h1 ρ1 r1 ro1
    have la : a1.length = P.cellsOf t := by rw [← denL_length ρ1, d1]; exact hlen
    refine ⟨h2, ρ2, a1 ++ a2, r2, ro2, g1.trans g2, e1.trans g1.1 e2, ?_, ?_, ?_⟩
    · rw [denL_append, denL_ext e2 a1 w1, d1, d2, List.take_append_drop]
    · rw [wsL_iff]
      intro v hv
      rcases List.mem_append.1 hv with hv | hv
      · exact ws_mono (fun i hi => Nat.lt_of_lt_of_le hi g2.1) v ((wsL_iff _ _).1 w1 v hv)
      · exact (wsL_iff _ _).1 w2 v hv
    · refine ⟨by simp; omega, ?_, ?_⟩
      · rw [← la, List.take_left]; exact c1.grow g2
      · rw [← la, List.drop_left]; exact c2

theorem tseq_of_struct {cs0 : List Value} : ∀ (fs : List Field) (off : Nat), contig P off fs = true → off + sumC P (fs.map (·.type)) = cs0.length →
    (∀ f ∈ fs, ∃ fuel x, DataW.trod enc P W 0 (fun _ => true) true fuel f.type ((cs0.drop f.offset).take (P.cellsOf f.type)) = some x) → TSeq enc P W (fs.map (·.type)) (cs0.drop off)
  | [], off, _, hl, _ => by
    simp only [List.map_nil, sumC] at hl
    exact List.drop_of_length_le (by omega)
  | f :: fs, off, hc, hl, hx => by
    simp only [contig, Bool.and_eq_true, beq_iff_eq] at hc
    simp only [List.map_cons, sumC] at hl
    obtain ⟨fuel, x, h1⟩ := hx f (List.mem_cons_self ..)
    rw [hc.1] at h1
    refine ⟨by simp only [List.length_drop]; show P.cellsOf f.type ≤ _; have h9 : off + (P.cellsOf f.type + sumC P (fs.map (·.type))) = cs0.length := hl; omega, ⟨fuel, x, h1⟩, ?_⟩
    rw [List.drop_drop]
    exact tseq_of_struct fs _ hc.2 (by show off + P.cellsOf f.type + _ = _; rw [← hl]; exact Nat.add_assoc _ _ _) (fun f hf => hx f (List.mem_cons_of_mem _ hf))

theorem tseq_of_array {e : TypeId} {cs0 : List Value} : ∀ (m off : Nat), (off + m) * P.cellsOf e = cs0.length →
    (∀ i, i < m → ∃ fuel x, DataW.trod enc P W 0 (fun _ => true) true fuel e ((cs0.drop ((off + i) * P.cellsOf e)).take (P.cellsOf e)) = some x) → TSeq enc P W (List.replicate m e) (cs0.drop (off * P.cellsOf e))
  | 0, off, hl, _ => List.drop_of_length_le (by rw [← hl]; simp)
  | m + 1, off, hl, hx => by
    rw [List.replicate_succ]
    have hmul : (off + (m + 1)) * P.cellsOf e = off * P.cellsOf e + (m + 1) * P.cellsOf e := Nat.add_mul _ _ _
    have hm2 : (m + 1) * P.cellsOf e = m * P.cellsOf e + P.cellsOf e := Nat.succ_mul _ _
    obtain ⟨fuel, x, h1⟩ := hx 0 (Nat.succ_pos _)
    rw [Nat.add_zero] at h1
    refine ⟨by simp only [List.length_drop]; omega, ⟨fuel, x, h1⟩, ?_⟩
    rw [List.drop_drop, show off * P.cellsOf e + P.cellsOf e = (off + 1) * P.cellsOf e by rw [Nat.succ_mul]]
    refine tseq_of_array m (off + 1) (by rw [show off + 1 + m = off + (m + 1) by omega]; exact hl) ?_
    intro i hi
    obtain ⟨fuel, x, h1⟩ := hx (i + 1) (by omega)
    exact ⟨fuel, x, by rw [show off + 1 + i = off + (i + 1) by omega]; exact h1⟩

theorem addr_add_add (a : Addr) (m k : Nat) : (a.add m).add k = a.add (m + k) := by
  unfold Addr.add
  by_cases hk : k = 0
  · subst hk; simp
  · by_cases hm : m = 0
    · subst hm; simp
    · simp [hk, hm, Nat.add_assoc]

theorem mapM_some_all {f : Nat → Option Value} : ∀ (l : List Nat) (vs : List Value), l.mapM f = some vs → vs.length = l.length ∧ ∀ (j k : Nat), l[j]? = some k → ∃ v, f k = some v ∧ vs[j]? = some v
  | [], vs, h => by simp at h; subst h; exact ⟨rfl, by simp⟩
  | x :: l, vs, h => by
    rw [List.mapM_cons] at h
    cases hf : f x with
    | none => simp [hf] at h
    | some v =>
      cases hl : l.mapM f with
      | none => simp [hf, hl] at h
      | some vs' =>
        simp [hf, hl] at h
        subst h
        obtain ⟨h1, h2⟩ := mapM_some_all l vs' hl
        refine ⟨by simp [h1], ?_⟩
        intro j k hj
        cases j with
        | zero => simp at hj; subst hj; exact ⟨v, hf, rfl⟩
        | succ j => simp at hj; simpa using h2 j k hj

theorem cells?_spec {a : Addr} {n : Nat} {vs : List Value} (h : W.cells? 0 a n = some vs) : vs.length = n ∧ ∀ j, j < n → W.cell? (a.add j) = vs[j]? := by
  unfold World.cells? at h
  rw [if_pos (Nat.zero_le _)] at h
  obtain ⟨h1, h2⟩ := mapM_some_all _ _ h
  refine ⟨by simpa using h1, fun j hj => ?_⟩
  obtain ⟨v, h3, h4⟩ := h2 j j (by simp [hj])
  rw [h3, h4]

theorem tseq_of_slice {e : TypeId} {a : Addr} : ∀ (len off : Nat), (∀ i, i < len → ∃ ci fuel x, W.cells? 0 (a.add ((off + i) * P.cellsOf e)) (P.cellsOf e) = some ci ∧ DataW.trod enc P W 0 (fun _ => true) true fuel e ci = some x) →
    ∃ C, C.length = len * P.cellsOf e ∧ TSeq enc P W (List.replicate len e) C ∧ ∀ j, j < C.length → W.cell? (a.add (off * P.cellsOf e + j)) = C[j]?
  | 0, off, _ => ⟨[], by simp, rfl, by simp⟩
  | len + 1, off, hx => by
    obtain ⟨ci, fuel, x, h1, h2⟩ := hx 0 (Nat.succ_pos _)
    rw [Nat.add_zero] at h1
    obtain ⟨h3, h4⟩ := cells?_spec h1
    obtain ⟨C, q1, q2, q3⟩ := tseq_of_slice len (off + 1) (fun i hi => by
      obtain ⟨ci, fuel, x, h1, h2⟩ := hx (i + 1) (by omega)
      exact ⟨ci, fuel, x, by rw [show off + 1 + i = off + (i + 1) by omega]; exact h1, h2⟩)
    refine ⟨ci ++ C, ?_, ?_, ?_⟩
    · rw [List.length_append, h3, q1, Nat.succ_mul]; omega
    · rw [List.replicate_succ]
      refine ⟨by simp; omega, ⟨fuel, x, by rw [← h3, List.take_left]; exact h2⟩, by rw [← h3, List.drop_left]; exact q2⟩
    · intro j hj
      rw [List.length_append] at hj
      rw [List.getElem?_append]
      split
      · rename_i hlt
        have := h4 j (by omega)
        rw [addr_add_add] at this
        exact this
      · rename_i hge
        have := q3 (j - ci.length) (by omega)
        rw [← this]
        congr 2
        rw [Nat.succ_mul]
        omega

theorem slice_den (ρ : Env) (i len cap : Nat) {a : Addr} (h : ρ i = ⟨a.block, a.off, 0, a.spot⟩) : (AV.slice (some (i, 0)) len cap none false).den ρ = .slice (some a) len cap := by
  simp only [AV.den, sAddr, pAddr, h]
  simp

theorem bridge : ∀ (n : Nat) (t : TypeId), plainT P n t = true → Br enc P W G n t := by
  intro n
  induction n with
  | zero => intro t h; simp [plainT] at h
  | succ n ih =>
    intro t hp fuel cs x hx
    unfold plainT at hp
    split at hp
    · rename_i hu
      simp only [beq_iff_eq] at hp
      obtain ⟨b, rfl, _⟩ := DataW.trod_bool hu hx
      refine ⟨hp.symm, fun h ρ r ro => ⟨h, ρ, [.bool b], r, ro, Grow.refl _, Ext.refl _ _, rfl, ⟨trivial, trivial⟩, ?_⟩⟩
      unfold HasC; rw [hu]; exact ⟨b, rfl⟩
    · rename_i k hu
      simp only [beq_iff_eq] at hp
      obtain ⟨m, rfl, _, hwf⟩ := DataW.trod_int hu hx
      refine ⟨hp.symm, fun h ρ r ro => ⟨h, ρ, [.int k m], r, ro, Grow.refl _, Ext.refl _ _, rfl, ⟨trivial, trivial⟩, ?_⟩⟩
      unfold HasC; rw [hu]; exact ⟨m, rfl, hwf⟩
    · rename_i e hu
      simp only [Bool.and_eq_true, beq_iff_eq, decide_eq_true_eq] at hp
      obtain ⟨hp, hpos⟩ := hp
      rcases DataW.trod_slice hu hx with ⟨rfl, _⟩ | ⟨a, len, cap, elems, rest, m, _, rfl, _, _, hle, _, hlen, hel, _⟩
      · refine ⟨hp.2.symm, fun h ρ r ro => ⟨h, ρ, [.slice none 0 0 none false], r, ro, Grow.refl _, Ext.refl _ _, rfl, ⟨trivial, trivial⟩, ?_⟩⟩
        unfold HasC; rw [hu]; exact .inl rfl
      · refine ⟨hp.2.symm, fun h ρ r ro => ?_⟩
        by_cases h0 : len = 0
        · obtain ⟨r1, ro1⟩ := r.allocRo ro ⟨a.block, a.off, 0, a.spot⟩ (o := .dead) rfl trivial (fun h => by cases h) trivial
          refine ⟨_, _, [.slice (some (h.n, 0)) len cap none false], r1, ro1, Grow.alloc _ _, Ext.upd _ _ _, ?_, ⟨Nat.lt_succ_self _, trivial⟩, ?_⟩
          · simp only [AV.denL]
            rw [slice_den _ _ _ _ (upd_self _ _ _)]
          · unfold HasC; rw [hu]; exact .inr ⟨_, _, _, rfl, hle, .inl h0⟩
        · obtain ⟨C, q1, q2, q3⟩ := tseq_of_slice (enc := enc) (P := P) (W := W) (e := e) (a := a) len 0 (fun i hi => by
            have h1 := hel i hi
            rw [List.getElem?_eq_getElem (by omega)] at h1
            rw [Option.bind_eq_some_iff] at h1
            obtain ⟨ci, h2, h3⟩ := h1
            exact ⟨ci, _, _, by rw [Nat.zero_add]; exact h2, h3⟩)
          obtain ⟨h1, ρ1, a1, r1, ro1, g1, e1, d1, w1, c1⟩ := bridge_seq (List.replicate len e) (fun t ht => by rw [List.eq_of_mem_replicate ht]; exact ih e hp.1) C q2 h ρ r ro
          simp only [Nat.zero_mul, Nat.zero_add] at q3
          have hblk : a.block < W.heap.size := by
            have hC : 0 < C.length := by rw [q1]; exact Nat.mul_pos (by omega) hpos
            have h1 := q3 0 hC
            rw [List.getElem?_eq_getElem hC] at h1
            unfold World.cell? at h1
            have hb : (a.add 0).block = a.block := by simp [Addr.add]
            rw [hb] at h1
            cases hh : W.heap[a.block]? with
            | none => rw [hh] at h1; cases h1
            | some o => exact (Array.getElem?_eq_some_iff.1 hh).1
          have hfit : Fits (upd ρ1 h1.n ⟨a.block, a.off, 0, a.spot⟩) W h1.n (.cells a1 true 1) := by
            intro j v hj
            have hjl : j < a1.length := (List.getElem?_eq_some_iff.1 hj).1
            have hCl : C.length = a1.length := by rw [← d1, denL_length]
            have h2 := q3 j (by omega)
            have h3 : C[j]? = some (v.den ρ1) := by rw [← d1]; exact denL_get hj
            have h4 : pAddr (upd ρ1 h1.n ⟨a.block, a.off, 0, a.spot⟩) h1.n j = a.add j := by
              simp only [pAddr, upd_self, Addr.add]
              by_cases hj0 : j = 0
              · subst hj0; simp
              · simp [hj0]
            rw [h4, h2, h3, den_ext (Ext.upd ρ1 h1.n _) v (wsL_get w1 hj)]
          obtain ⟨r2, ro2⟩ := r1.allocRo ro1 ⟨a.block, a.off, 0, a.spot⟩ (o := .cells a1 true 1) rfl w1 (fun _ => hblk) hfit
          refine ⟨_, _, [.slice (some (h1.n, 0)) len cap none false], r2, ro2, g1.trans (Grow.alloc _ _), e1.trans g1.1 (Ext.upd _ _ _), ?_, ⟨Nat.lt_succ_self _, trivial⟩, ?_⟩
          · simp only [AV.denL]
            rw [slice_den _ _ _ _ (upd_self _ _ _)]
          · unfold HasC; rw [hu]
            exact .inr ⟨_, _, _, rfl, hle, .inr ⟨a1, AHeap.get_alloc_self _ _, c1.mono fun _ _ => HasC.grow (Grow.alloc _ _)⟩⟩
    · rename_i fs hu
      simp only [Bool.and_eq_true, beq_iff_eq, List.all_eq_true] at hp
      obtain ⟨xs, m, _, _, hl, hlen, hf⟩ := DataW.trod_struct hu hx
      refine ⟨hl, fun h ρ r ro => ?_⟩
      have hts : TSeq enc P W (fs.toList.map (·.type)) (cs.drop 0) := by
        refine tseq_of_struct fs.toList 0 hp.1.1 (by rw [Nat.zero_add, hl]; exact hp.1.2) ?_
        intro f hfm
        obtain ⟨i, hi⟩ := List.mem_iff_getElem?.1 hfm
        have h1 := hf i f (by rw [← Array.getElem?_toList]; exact hi)
        rw [List.getElem?_eq_getElem (by rw [hlen, ← Array.length_toList]; exact (List.getElem?_eq_some_iff.1 hi).1)] at h1
        exact ⟨_, _, h1⟩
      obtain ⟨h1, ρ1, a1, r1, ro1, g1, e1, d1, w1, c1⟩ := bridge_seq (n := n) _ (fun t ht => by
        obtain ⟨f, hfm, rfl⟩ := List.mem_map.1 ht
        exact ih _ (hp.2 f hfm)) _ hts h ρ r ro
      refine ⟨h1, ρ1, a1, r1, ro1, g1, e1, by rw [d1, List.drop_zero], w1, ?_⟩
      unfold HasC; rw [hu]; exact c1
    · rename_i m e hu
      simp only [Bool.and_eq_true, beq_iff_eq] at hp
      obtain ⟨xs, k, _, _, hl, hlen, hf⟩ := DataW.trod_array hu hx
      refine ⟨hl, fun h ρ r ro => ?_⟩
      have hts : TSeq enc P W (List.replicate m e) (cs.drop (0 * P.cellsOf e)) := by
        refine tseq_of_array m 0 (by rw [Nat.zero_add, hl]; exact hp.2) ?_
        intro i hi
        have h1 := hf i hi
        rw [List.getElem?_eq_getElem (by omega)] at h1
        exact ⟨_, _, by rw [Nat.zero_add]; exact h1⟩
      rw [Nat.zero_mul, List.drop_zero] at hts
      obtain ⟨h1, ρ1, a1, r1, ro1, g1, e1, d1, w1, c1⟩ := bridge_seq (n := n) _ (fun t ht => by
        rw [List.eq_of_mem_replicate ht]; exact ih e hp.1) _ hts h ρ r ro
      refine ⟨h1, ρ1, a1, r1, ro1, g1, e1, d1, w1, ?_⟩
      unfold HasC; rw [hu]; exact c1
    · cases hp
end
end Go.Sx
namespace Go.Sx
open Go Go.RowKit Go.ChangeShapes Go.WideShapes

/-- one value, as its type is -/
def HasV (P : Program) (h : AHeap) (n : Nat) (t : TypeId) (v : AV) : Prop :=
  (∃ cs, v = .agg cs ∧ (∃ d, P.underlying t = some d ∧ isAggD d = true) ∧ HasC P h n t cs) ∨ ((∃ d, P.underlying t = some d ∧ isAggD d = false) ∧ HasC P h n t [v])
def HasVs (P : Program) (h : AHeap) (n : Nat) : List TypeId → List AV → Prop
  | [], vs => vs = []
  | t :: ts, v :: vs => HasV P h n t v ∧ HasVs P h n ts vs
  | _ :: _, [] => False
theorem HasV.grow {P : Program} {h h' : AHeap} (g : Grow h h') {n : Nat} {t : TypeId} {v : AV} (x : HasV P h n t v) : HasV P h' n t v := by
  rcases x with ⟨cs, h1, h2, h3⟩ | ⟨h1, h2⟩
  · exact .inl ⟨cs, h1, h2, h3.grow g⟩
  · exact .inr ⟨h1, h2.grow g⟩

section
variable {H : Type} {enc : TypeId × Value → H} {P : Program} {W : World} {G : Nat → Option Nat} {base : Nat}

theorem bridge_val {n : Nat} {t : TypeId} (hp : plainT P n t = true) {v : Value} {d : DataW H} {ps : List MemPlace} (ht : DataW.Trod enc P W 0 (fun _ => true) true t v d ps) (hok : Value.okWide P W .any base t v)
    (h : AHeap) (ρ : Env) (r : R W.heap.size G ρ h W) (ro : ROnly h) :
    ∃ (h' : AHeap) (ρ' : Env) (a : AV), R W.heap.size G ρ' h' W ∧ ROnly h' ∧ Grow h h' ∧ Ext (below h.n) ρ ρ' ∧ a.den ρ' = v ∧ a.ws (below h'.n) ∧ HasV P h' n t a := by
  obtain ⟨fuel, hf⟩ := ht
  obtain ⟨hl, hb⟩ := bridge (G := G) n t hp fuel _ _ hf
  obtain ⟨h', ρ', avs, r1, ro1, g1, e1, d1, w1, c1⟩ := hb h ρ r ro
  have one : ∀ w : Value, v.cells.toList = [w] → (∀ cs, v ≠ .agg cs) → (∃ d, P.underlying t = some d ∧ isAggD d = false) → ∃ (h' : AHeap) (ρ' : Env) (a : AV), R W.heap.size G ρ' h' W ∧ ROnly h' ∧ Grow h h' ∧ Ext (below h.n) ρ ρ' ∧ a.den ρ' = v ∧ a.ws (below h'.n) ∧ HasV P h' n t a := by
    intro w hw hna hd
    have hvw : v.cells = #[v] := by cases v <;> first | rfl | exact absurd rfl (hna _)
    rw [hvw] at d1
    match avs, d1, w1, c1 with
    | [a], d1, w1, c1 =>
      simp only [AV.denL, List.cons.injEq, and_true] at d1
      exact ⟨h', ρ', a, r1, ro1, g1, e1, d1, w1.1, .inr ⟨hd, c1⟩⟩
    | [], d1, _, _ => simp [AV.denL] at d1
    | _ :: _ :: _, d1, _, _ => simp [AV.denL] at d1
  cases n with
  | zero => simp [plainT] at hp
  | succ n =>
    unfold plainT at hp
    split at hp
    · rename_i hu
      obtain ⟨b, rfl⟩ := okWide_bool hu hok
      exact one _ rfl (fun cs => nofun) ⟨_, hu, rfl⟩
    · rename_i k hu
      obtain ⟨m, rfl⟩ := okWide_int hu hok
      exact one _ rfl (fun cs => nofun) ⟨_, hu, rfl⟩
    · rename_i e hu
      obtain ⟨a, len, cap, rfl⟩ := okWide_slice hu hok
      exact one _ rfl (fun cs => nofun) ⟨_, hu, rfl⟩
    · rename_i fs hu
      unfold Value.okWide at hok
      rw [hu] at hok
      obtain ⟨cs, rfl, _, _⟩ := hok
      refine ⟨h', ρ', .agg avs, r1, ro1, g1, e1, ?_, w1, .inl ⟨avs, rfl, ⟨_, hu, rfl⟩, c1⟩⟩
      simp only [AV.den, d1]; rfl
    · rename_i m e hu
      unfold Value.okWide at hok
      rw [hu] at hok
      obtain ⟨cs, rfl, _, _⟩ := hok
      refine ⟨h', ρ', .agg avs, r1, ro1, g1, e1, ?_, w1, .inl ⟨avs, rfl, ⟨_, hu, rfl⟩, c1⟩⟩
      simp only [AV.den, d1]; rfl
    · cases hp

theorem bridge_all {n : Nat} : ∀ (ts : List TypeId) (vs : List Value) (ds : List (DataW H)) (ps : List MemPlace), (∀ t ∈ ts, plainT P n t = true) → DataW.TrodAll enc P W 0 (fun _ => true) true ts vs ds ps →
    (∀ (j : Nat) t v, ts[j]? = some t → vs[j]? = some v → Value.okWide P W .any base t v) → ∀ (h : AHeap) (ρ : Env), R W.heap.size G ρ h W → ROnly h →
    ∃ (h' : AHeap) (ρ' : Env) (as : List AV), R W.heap.size G ρ' h' W ∧ ROnly h' ∧ Grow h h' ∧ Ext (below h.n) ρ ρ' ∧ AV.denL ρ' as = vs ∧ AV.wsL (below h'.n) as ∧ HasVs P h' n ts as
  | [], vs, ds, ps, hp, ht, hok, h, ρ, r, ro => by
    obtain ⟨rfl, rfl, rfl⟩ := trodAll_nil ht
    exact ⟨h, ρ, [], r, ro, Grow.refl _, Ext.refl _ _, rfl, trivial, rfl⟩
  | t :: ts, vs, ds, ps, hp, ht, hok, h, ρ, r, ro => by
    obtain ⟨v, vs1, d, ds1, a, b, rfl, rfl, rfl, h1, h2⟩ := trodAll_cons ht
    obtain ⟨hA, ρA, x, rA, roA, gA, eA, dA, wA, cA⟩ := bridge_val (hp t (List.mem_cons_self ..)) h1 (hok 0 t v rfl rfl) h ρ r ro
    obtain ⟨hB, ρB, xs, rB, roB, gB, eB, dB, wB, cB⟩ := bridge_all ts vs1 ds1 b (fun u hu => hp u (List.mem_cons_of_mem _ hu)) h2 (fun j u w hj hw => hok (j + 1) u w hj hw) hA ρA rA roA
    refine ⟨hB, ρB, x :: xs, rB, roB, gA.trans gB, eA.trans gA.1 eB, ?_, ⟨ws_mono (fun i hi => Nat.lt_of_lt_of_le hi gB.1) x wA, wB⟩, cA.grow gB, cB⟩
    simp only [AV.denL, dB, den_ext eB x wA, dA]

/-- A LAW, from the machine's answer -/
theorem law_of_ro {N : Nat} {ρ : Env} {call : CallF} {f : FuncId} {args : List AV} {b : Bool} {h h1 : AHeap} {w : World} (hc : CallOk P N G call) (r : R N G ρ h w) (ro : ROnly h) (hw : AV.wsL (below h.n) args)
    (hrun : call f args h = some (.bool b, h1)) :
    Calls P f (AV.denL ρ args).toArray w fun e w' => e = .returned (.bool b) ∧ Below w.heap.size w w' := by
  refine (hc.sound f args _ _ _ hrun ρ w r hw).mono ?_
  rintro e w' ⟨ρ', rfl, _, s, _⟩
  exact ⟨rfl, s.all ro⟩
end
end Go.Sx
