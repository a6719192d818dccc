/- YtlbgokakghchiaaDoorLdM: texts of one's own, merged: LdS3, LdS4, LdS5, LdS6, LdS7. -/
import Derived.Test.YtlbgokakghchiaaDoorLdA
set_option linter.all false
namespace Go.Sv
open Go Go.Proofs Go.Sx Go.RowKit
set_option maxRecDepth 100000

structure Cfg where
  num : Int
  full : Int
  chain : List Int

section
variable {G : Nat → Option Nat} {ov : Ovs} {h : AHeap}

theorem CloneI_ok (hov : ov n_slices_Clone_int_int = none) {s : AV} {xs : List Int} {ids : List Nat} (hs : SlI h s xs ids) (hl : xs.length ≤ 2 ^ 36) :
    FW PR G ov n_slices_Clone_int_int [s] h fun v h' => ∃ ids', Keep [] h h' ∧ SlI h' v xs ids' ∧ ∀ i ∈ ids', h.n ≤ i := by
  refine call_slices_Clone_int_int hov ?_
  obtain ⟨b, hb, hnil⟩ := hs.isnil h false
  simp only [go_sem, ↓reduceIte, Nat.reduceAdd, Nat.reduceMul, Nat.reduceSub, Nat.reduceEqDiff, Nat.reduceLT, Nat.reduceLeDiff, Int.reduceEq, Int.reduceLT, Int.reduceLE, Int.reduceAdd, Int.reduceSub, Int.reduceNeg, Int.reduceToNat, c_slices_Clone_int_int, hb]
  cases b with
  | true =>
    obtain ⟨h0, h1, rfl⟩ := hnil rfl
    simp only [go_sem, ↓reduceIte, Nat.reduceAdd, Nat.reduceMul, Nat.reduceSub, Nat.reduceEqDiff, Nat.reduceLT, Nat.reduceLeDiff, Int.reduceEq, Int.reduceLT, Int.reduceLE, Int.reduceAdd, Int.reduceSub, Int.reduceNeg, Int.reduceToNat]
    refine ⟨[], Keep.refl _ _, ?_, by simp⟩
    rw [SlI, h0, h1]
    exact Sl.nil _ _ _
  | false =>
    simp only [go_sem, ↓reduceIte, Nat.reduceAdd, Nat.reduceMul, Nat.reduceSub, Nat.reduceEqDiff, Nat.reduceLT, Nat.reduceLeDiff, Int.reduceEq, Int.reduceLT, Int.reduceLE, Int.reduceAdd, Int.reduceSub, Int.reduceNeg, Int.reduceToNat]
    obtain ⟨u, h2, ha, hk, hu⟩ := app_empty (bytes := 8) hs ((Keep.refl [] h).alloc (.cells [] false 1)) (by simp) (AHeap.get_alloc_self h (.cells [] false 1)) (by omega) (by omega) (by omega)
    simp only [go_sem, ↓reduceIte, Nat.reduceAdd, Nat.reduceMul, Nat.reduceSub, Nat.reduceEqDiff, Nat.reduceLT, Nat.reduceLeDiff, Int.reduceEq, Int.reduceLT, Int.reduceLE, Int.reduceAdd, Int.reduceSub, Int.reduceNeg, Int.reduceToNat, ha]
    refine ⟨_, ((Keep.refl [] h).alloc _).trans0 hk, hu, ?_⟩
    intro i hi
    rw [List.mem_singleton.1 hi, AHeap.n_alloc]
    omega

theorem copied_ok (E : LdFree ov) {a b : Int} {s : AV} {xs : List Int} {ids : List Nat} (hs : SlI h s xs ids) (hl : xs.length ≤ 2 ^ 36) :
    FW PR G ov n_lead_copied [.agg [.int .i64 a, .int .i64 b, s]] h fun v h' => ∃ s' ids', v = .agg [.int .i64 a, .int .i64 b, s'] ∧ Keep [] h h' ∧ SlI h' s' xs ids' ∧ ∀ i ∈ ids', h.n ≤ i := by
  refine call_lead_copied (E.no _ rfl) ?_
  simp only [go_sem, ↓reduceIte, Nat.reduceAdd, Nat.reduceMul, Nat.reduceSub, Nat.reduceEqDiff, Nat.reduceLT, Nat.reduceLeDiff, Int.reduceEq, Int.reduceLT, Int.reduceLE, Int.reduceAdd, Int.reduceSub, Int.reduceNeg, Int.reduceToNat, c_lead_copied, cellAt, cellsAt, aput?, get_alloc_eq, get_alloc_lt, get_set_eq, get_set_lt, Nat.add_left_cancel_iff, Nat.add_eq_left, Nat.left_eq_add, Nat.lt_add_right_iff_pos, Nat.add_lt_add_iff_left, Nat.add_eq_zero_iff, Nat.zero_lt_succ, Nat.lt_add_one, List.length_cons, List.length_nil, Nat.le_refl, and_self]
  obtain ⟨hA, hAd⟩ : ∃ hA, hA = (h.alloc (.cells [.int .i64 a, .int .i64 b, s] false 1)).alloc (.cells [.int .i64 0, .int .i64 0, .slice none 0 0 none false] false 1) := ⟨_, rfl⟩
  have kA : Keep [] h hA := by subst hAd; exact ((Keep.refl [] h).alloc _).alloc _
  have g1 : hA.get h.n = some (.cells [.int .i64 a, .int .i64 b, s] false 1) := by subst hAd; simp only [go_sem, ↓reduceIte, Nat.reduceAdd, Nat.reduceMul, Nat.reduceSub, Nat.reduceEqDiff, Nat.reduceLT, Nat.reduceLeDiff, Int.reduceEq, Int.reduceLT, Int.reduceLE, Int.reduceAdd, Int.reduceSub, Int.reduceNeg, Int.reduceToNat, cellAt, cellsAt, aput?, get_alloc_eq, get_alloc_lt, get_set_eq, get_set_lt, Nat.add_left_cancel_iff, Nat.add_eq_left, Nat.left_eq_add, Nat.lt_add_right_iff_pos, Nat.add_lt_add_iff_left, Nat.add_eq_zero_iff, Nat.zero_lt_succ, Nat.lt_add_one, List.length_cons, List.length_nil, Nat.le_refl, and_self]
  have g2 : hA.get (h.n + 1) = some (.cells [.int .i64 0, .int .i64 0, .slice none 0 0 none false] false 1) := by subst hAd; simp only [go_sem, ↓reduceIte, Nat.reduceAdd, Nat.reduceMul, Nat.reduceSub, Nat.reduceEqDiff, Nat.reduceLT, Nat.reduceLeDiff, Int.reduceEq, Int.reduceLT, Int.reduceLE, Int.reduceAdd, Int.reduceSub, Int.reduceNeg, Int.reduceToNat, cellAt, cellsAt, aput?, get_alloc_eq, get_alloc_lt, get_set_eq, get_set_lt, Nat.add_left_cancel_iff, Nat.add_eq_left, Nat.left_eq_add, Nat.lt_add_right_iff_pos, Nat.add_lt_add_iff_left, Nat.add_eq_zero_iff, Nat.zero_lt_succ, Nat.lt_add_one, List.length_cons, List.length_nil, Nat.le_refl, and_self]
  have nA : hA.n = h.n + 2 := by subst hAd; simp only [go_sem, ↓reduceIte, Nat.reduceAdd, Nat.reduceMul, Nat.reduceSub, Nat.reduceEqDiff, Nat.reduceLT, Nat.reduceLeDiff, Int.reduceEq, Int.reduceLT, Int.reduceLE, Int.reduceAdd, Int.reduceSub, Int.reduceNeg, Int.reduceToNat]
  rw [← hAd]
  refine (CloneI_ok (E.no _ rfl) (hs.keep kA (by simp)) hl).mono ?_
  rintro v h2 ⟨ids', k2, hv, hf⟩
  have g1' := k2.get g1 (List.not_mem_nil)
  have g2' := k2.get g2 (List.not_mem_nil)
  have l1 := AHeap.get_lt g1'
  have l2 := AHeap.get_lt g2'
  have hv' := hv
  obtain ⟨sa, sc, sz, so, rfl, _⟩ := hv'
  simp only [go_sem, ↓reduceIte, Nat.reduceAdd, Nat.reduceMul, Nat.reduceSub, Nat.reduceEqDiff, Nat.reduceLT, Nat.reduceLeDiff, Int.reduceEq, Int.reduceLT, Int.reduceLE, Int.reduceAdd, Int.reduceSub, Int.reduceNeg, Int.reduceToNat, cellAt, cellsAt, aput?, get_alloc_eq, get_alloc_lt, get_set_eq, get_set_lt, Nat.add_left_cancel_iff, Nat.add_eq_left, Nat.left_eq_add, Nat.lt_add_right_iff_pos, Nat.add_lt_add_iff_left, Nat.add_eq_zero_iff, Nat.zero_lt_succ, Nat.lt_add_one, List.length_cons, List.length_nil, Nat.le_refl, and_self, g1', g2', l1, l2]
  refine ⟨_, ids', rfl, ((kA.trans0 k2).set _ (.inr (by omega))).set _ (.inr (by omega)), ?_, fun i hi => by have := hf i hi; omega⟩
  refine (hv.keep (((Keep.refl [h.n, h.n + 1] h2).set _ (.inl (by simp))).set _ (.inl (by simp))) ?_)
  intro i hi hi'
  have := hf i hi'
  simp only [List.mem_cons, List.not_mem_nil, or_false] at hi
  omega
end
end Go.Sv
namespace Go.Sv
open Go Go.Proofs Go.Sx Go.RowKit
set_option maxRecDepth 100000

structure Vt where
  bal : Int
  c : Cfg
structure LdS where
  id : Int
  b : Int
  f : Int
  p : Int
  prom : Int
  said : Int
  bounds : List Vt
  pend : Option Cfg

def voteV (b : Vt) (s : AV) : List AV := [.int .i64 b.bal, .int .i64 b.c.num, .int .i64 b.c.full, s]
def Ents (h : AHeap) (ids : List Nat) : List (AV × AV) → List Vt → Prop
  | [], [] => True
  | e :: es, b :: bs => (∃ s, e = (.int .i64 b.c.num, .agg (voteV b s)) ∧ SlI h s b.c.chain ids) ∧ Ents h ids es bs
  | _, _ => False
def MapRep (h : AHeap) (ids : List Nat) (mp : Option Nat) (bs : List Vt) : Prop :=
  match mp with
  | none => bs = []
  | some m => m ∈ ids ∧ ∃ es, h.get m = some (.map es) ∧ Ents h ids es bs
def PendRep (h : AHeap) (ids : List Nat) (pp : Option (Nat × Nat)) (c : Option Cfg) : Prop :=
  match pp, c with
  | none, none => True
  | some (j, o), some c => o = 0 ∧ j ∈ ids ∧ ∃ s ro e, h.get j = some (.cells [.int .i64 c.num, .int .i64 c.full, s] ro e) ∧ SlI h s c.chain ids
  | _, _ => False
def ldCells (L : LdS) (mp : Option Nat) (pp : Option (Nat × Nat)) : List AV := [.int .i64 L.id, .int .i64 L.b, .int .i64 L.f, .int .i64 L.p, .int .u64 L.prom, .map mp, .ptr pp, .int .u64 L.said, .bool true]
def LdRep (h : AHeap) (i : Nat) (ids : List Nat) (L : LdS) : Prop :=
  ∃ mp pp, i ∉ ids ∧ h.get i = some (.cells (ldCells L mp pp) false 1) ∧ MapRep h ids mp L.bounds ∧ PendRep h ids pp L.pend ∧ (L.p ≠ 0 → mp ≠ none) ∧ ∀ j ∈ ids, j < h.n

section
variable {h h' : AHeap} {ids ids' M : List Nat}
theorem Sl.bounded {esz n : Nat} {v : AV} {cs : List AV} (s : Sl h esz v n cs ids) : Sl h esz v n cs (ids.filter (· < h.n)) := by
  obtain ⟨a, cap, z, op, h1, h2, h2a, h3, h4⟩ := s
  refine ⟨a, cap, z, op, h1, h2, h2a, h3, ?_⟩
  rcases h4 with h4 | ⟨i, off, c, ro, e, h5, h6, h7, h8, h9⟩
  · exact .inl h4
  · exact .inr ⟨i, off, c, ro, e, h5, h6, List.mem_filter.2 ⟨h7, decide_eq_true (AHeap.get_lt h8)⟩, h8, h9⟩
theorem Ents.keep (k : Keep M h h') (hd : ∀ i ∈ M, i ∉ ids) : ∀ {es : List (AV × AV)} {bs : List Vt}, Ents h ids es bs → Ents h' ids es bs
  | [], [], _ => trivial
  | e :: es, b :: bs, x => by
    obtain ⟨⟨s, h1, h2⟩, h3⟩ := x
    exact ⟨⟨s, h1, h2.keep k hd⟩, Ents.keep k hd h3⟩
theorem Ents.mono (hm : ∀ i ∈ ids, i ∈ ids') : ∀ {es : List (AV × AV)} {bs : List Vt}, Ents h ids es bs → Ents h ids' es bs
  | [], [], _ => trivial
  | e :: es, b :: bs, x => by
    obtain ⟨⟨s, h1, h2⟩, h3⟩ := x
    exact ⟨⟨s, h1, h2.mono hm⟩, Ents.mono hm h3⟩
theorem MapRep.keep (k : Keep M h h') (hd : ∀ i ∈ M, i ∉ ids) {mp : Option Nat} {bs : List Vt} (r : MapRep h ids mp bs) : MapRep h' ids mp bs := by
  cases mp with
  | none => exact r
  | some m =>
    obtain ⟨h1, es, h2, h3⟩ := r
    exact ⟨h1, es, k.get h2 (fun hm => hd m hm h1), h3.keep k hd⟩
theorem MapRep.mono (hm : ∀ i ∈ ids, i ∈ ids') {mp : Option Nat} {bs : List Vt} (r : MapRep h ids mp bs) : MapRep h ids' mp bs := by
  cases mp with
  | none => exact r
  | some m =>
    obtain ⟨h1, es, h2, h3⟩ := r
    exact ⟨hm m h1, es, h2, h3.mono hm⟩
theorem PendRep.keep (k : Keep M h h') (hd : ∀ i ∈ M, i ∉ ids) {pp : Option (Nat × Nat)} {c : Option Cfg} (r : PendRep h ids pp c) : PendRep h' ids pp c := by
  match pp, c, r with
  | none, none, r => trivial
  | some (j, o), some c, ⟨h1, h2, s, ro, e, h3, h4⟩ => exact ⟨h1, h2, s, ro, e, k.get h3 (fun hm => hd j hm h2), h4.keep k hd⟩
theorem PendRep.mono (hm : ∀ i ∈ ids, i ∈ ids') {pp : Option (Nat × Nat)} {c : Option Cfg} (r : PendRep h ids pp c) : PendRep h ids' pp c := by
  match pp, c, r with
  | none, none, r => trivial
  | some (j, o), some c, ⟨h1, h2, s, ro, e, h3, h4⟩ => exact ⟨h1, hm j h2, s, ro, e, h3, h4.mono hm⟩
theorem LdRep.keep {i : Nat} {L : LdS} (r : LdRep h i ids L) (k : Keep M h h') (hd : ∀ j ∈ M, j ≠ i ∧ j ∉ ids) : LdRep h' i ids L := by
  obtain ⟨mp, pp, h1, h2, h3, h4, h5, h6⟩ := r
  exact ⟨mp, pp, h1, k.get h2 (fun hm => (hd i hm).1 rfl), h3.keep k (fun j hj => (hd j hj).2), h4.keep k (fun j hj => (hd j hj).2), h5, fun j hj => Nat.lt_of_lt_of_le (h6 j hj) k.1⟩

theorem keep_set (h : AHeap) (i : Nat) (o : AObj) : Keep [i] h (h.set i o) := (Keep.refl _ _).set _ (.inl (List.mem_singleton.2 rfl))
end

section
variable {G : Nat → Option Nat} {ov : Ovs} {h : AHeap} {i : Nat} {ids : List Nat} {L : LdS}

theorem Start_rep (E : LdFree ov) (r : LdRep h i ids L) {a f : Int} (h0 : 0 ≤ L.id) (h3 : L.id < 3) (hB : 0 ≤ L.b) (hB2 : L.b ≤ 2 ^ 60) (ha : 0 ≤ a) (ha2 : a ≤ 9007199254740988) (hf : 1 ≤ f) (hf2 : f ≤ 9007199254740991) :
    FW PR G ov n_lead_Lead_Start [.ptr (some (i, 0)), .int .i64 a, .int .i64 f] h fun v h' => v = .tuple [.int .i64 (nextB L.id a L.b), .int .i64 0] ∧ Keep [i] h h' ∧ ∃ ids', LdRep h' i ids' ⟨L.id, nextB L.id a L.b, f, 1, 0, 0, [], none⟩ ∧ (∀ j ∈ ids', h.n ≤ j) := by
  obtain ⟨mp, pp, h1, h2, h3', h4, h5⟩ := r
  have hl := AHeap.get_lt h2
  rw [ldCells] at h2
  rw [Start_ok E h2 h0 h3 hB hB2 ha ha2 hf hf2]
  refine ⟨rfl, ((Keep.refl _ _).alloc _).set _ (.inl (by simp)), [h.n], ⟨some h.n, none, ?_, ?_, ?_, trivial, by simp, ?_⟩, by simp⟩
  · simp only [List.mem_singleton]; omega
  · exact get_set_self' (by rw [AHeap.n_alloc]; omega)
  · refine ⟨List.mem_singleton.2 rfl, [], ?_, trivial⟩
    rw [AHeap.get_set_ne _ _ (by omega)]
    exact AHeap.get_alloc_self _ _
  · intro j hj
    rw [List.mem_singleton.1 hj]
    exact Nat.lt_succ_self _
theorem New_rep (E : LdFree ov) {id : Int} (h0 : 0 ≤ id) (h3 : id < 3) :
    FW PR G ov n_lead_New [.int .i64 id] h fun v h' => v = .tuple [.ptr (some (h.n, 0)), .int .i64 0] ∧ Keep [] h h' ∧ LdRep h' h.n [] ⟨id, 0, 0, 0, 0, 0, [], none⟩ := by
  rw [New_ok E h0 h3]
  exact ⟨rfl, (Keep.refl _ _).alloc _, none, none, by simp, AHeap.get_alloc_self _ _, rfl, trivial, fun h => (h rfl).elim, by simp⟩

/-! ### the map of bounds -/
def bget (bs : List Vt) (x : Int) : Option Vt := bs.find? fun b => b.c.num == x
def bset : List Vt → Vt → List Vt
  | [], v => [v]
  | b :: bs, v => if b.c.num = v.c.num then v :: bs else b :: bset bs v
theorem afind_ents {x : Int} : ∀ {es : List (AV × AV)} {bs : List Vt}, Ents h ids es bs →
    (bget bs x = none ∧ afind (.int .i64 x) es = some none) ∨
    ∃ k b s, bget bs x = some b ∧ afind (.int .i64 x) es = some (some (k, .agg (voteV b s))) ∧ SlI h s b.c.chain ids ∧ k < es.length
  | [], [], _ => .inl ⟨rfl, rfl⟩
  | e :: es, b :: bs, ⟨⟨s, he, hs⟩, hr⟩ => by
    subst he
    by_cases hx : b.c.num = x
    · refine .inr ⟨0, b, s, ?_, ?_, hs, Nat.succ_pos _⟩
      · simp [bget, hx]
      · simp [afind, akeyEq, hx]
    · have hx' : ¬ x = b.c.num := fun h => hx h.symm
      rcases afind_ents (x := x) hr with ⟨h1, h2⟩ | ⟨k, b', s', h1, h2, h3, h4⟩
      · refine .inl ⟨?_, ?_⟩
        · simpa [bget, hx] using h1
        · simp [afind, akeyEq, beq_eq_false_iff_ne.2 hx', h2]
      · refine .inr ⟨k + 1, b', s', ?_, ?_, h3, by simp; omega⟩
        · simpa [bget, hx] using h1
        · simp [afind, akeyEq, beq_eq_false_iff_ne.2 hx', h2]
/-- the map behind an update -/
theorem ents_set {v : Vt} {s : AV} (hs : SlI h s v.c.chain ids) : ∀ {es : List (AV × AV)} {bs : List Vt}, Ents h ids es bs →
    (afind (.int .i64 v.c.num) es = some none ∧ Ents h ids (es ++ [(.int .i64 v.c.num, .agg (voteV v s))]) (bset bs v)) ∨
    ∃ k y, afind (.int .i64 v.c.num) es = some (some (k, y)) ∧ Ents h ids (es.set k (.int .i64 v.c.num, .agg (voteV v s))) (bset bs v)
  | [], [], _ => .inl ⟨rfl, ⟨s, rfl, hs⟩, trivial⟩
  | e :: es, b :: bs, ⟨⟨s', he, hs'⟩, hr⟩ => by
    subst he
    by_cases hx : b.c.num = v.c.num
    · refine .inr ⟨0, _, by simp [afind, akeyEq, hx]; rfl, ?_⟩
      simp only [bset, hx, if_true, List.set_cons_zero]
      exact ⟨⟨s, rfl, hs⟩, hr⟩
    · have hx' : ¬ v.c.num = b.c.num := fun h => hx h.symm
      simp only [bset, hx, if_false]
      rcases ents_set hs hr with ⟨h1, h2⟩ | ⟨k, y, h1, h2⟩
      · refine .inl ⟨by simp [afind, akeyEq, beq_eq_false_iff_ne.2 hx', h1], ?_⟩
        exact ⟨⟨s', rfl, hs'⟩, h2⟩
      · refine .inr ⟨k + 1, y, by simp [afind, akeyEq, beq_eq_false_iff_ne.2 hx', h1], ?_⟩
        rw [List.set_cons_succ]
        exact ⟨⟨s', rfl, hs'⟩, h2⟩
end
end Go.Sv
namespace Go.Sv
open Go Go.Proofs Go.Sx Go.RowKit
set_option maxRecDepth 100000

def bitTab : List Int := [0, 1, 56, 2, 57, 49, 28, 3, 61, 58, 42, 50, 38, 29, 17, 4, 62, 47, 59, 36, 45, 43, 51, 22, 53, 39, 33, 30, 24, 18, 12, 5, 63, 55, 48, 27, 60, 41, 37, 16, 46, 35, 44, 21, 52, 32, 23, 11, 54, 26, 40, 15, 34, 20, 31, 10, 25, 14, 19, 9, 13, 8, 7, 6]
def HasTab (h : AHeap) : Prop := h.get 0 = some (.cells (bitTab.map (.int .u8)) true 1)
/-- how many of three -/
def pc3 (x : Int) : Nat := if x = 0 then 0 else if x = 1 ∨ x = 2 ∨ x = 4 then 1 else if x = 7 then 3 else 2
structure LdEnv (G : Nat → Option Nat) (ov : Ovs) : Prop where
  free : LdFree ov
  works : ∀ h K, HasTab h → FW PR G ov n_law16_works [] h K = K (.bool true) h
  enough : ∀ h K s, HasTab h → 0 ≤ s → s ≤ 7 → FW PR G ov n_lead_enoughOf [.int .u64 s] h K = K (.bool (decide (2 ≤ pc3 s))) h

/-- a set with one more -/
def withB (s x : Int) : Int := if (s / 2 ^ x.toNat) % 2 = 1 then s else s + 2 ^ x.toNat

section
variable {G : Nat → Option Nat} {ov : Ovs} {h : AHeap} {i : Nat} {ids : List Nat} {L : LdS}

/-- what is changed is none of these, or a map -/
def NC (h : AHeap) (ids M : List Nat) : Prop := ∀ i ∈ M, i ∉ ids ∨ ∃ es, h.get i = some (.map es)
theorem Sl.keep2 {h h' : AHeap} {esz n : Nat} {v : AV} {cs : List AV} {ids M : List Nat} (s : Sl h esz v n cs ids) (k : Keep M h h') (hd : NC h ids M) : Sl h' esz v n cs ids := by
  obtain ⟨a, cap, z, op, h1, h2, h2a, h3, h4⟩ := s
  refine ⟨a, cap, z, op, h1, h2, h2a, h3, ?_⟩
  rcases h4 with h4 | ⟨i, off, c, ro, e, h5, h6, h7, h8, h9⟩
  · exact .inl h4
  · refine .inr ⟨i, off, c, ro, e, h5, h6, h7, k.get h8 (fun hm => ?_), h9⟩
    rcases hd i hm with h | ⟨es, h⟩
    · exact h h7
    · rw [h8] at h; cases h
theorem Ents.keep2 {h h' : AHeap} {ids M : List Nat} (k : Keep M h h') (hd : NC h ids M) : ∀ {es : List (AV × AV)} {bs : List Vt}, Ents h ids es bs → Ents h' ids es bs
  | [], [], _ => trivial
  | e :: es, b :: bs, x => by
    obtain ⟨⟨s, h1, h2⟩, h3⟩ := x
    exact ⟨⟨s, h1, h2.keep2 k hd⟩, Ents.keep2 k hd h3⟩
theorem PendRep.keep2 {h h' : AHeap} {ids M : List Nat} (k : Keep M h h') (hd : NC h ids M) {pp : Option (Nat × Nat)} {c : Option Cfg} (r : PendRep h ids pp c) : PendRep h' ids pp c := by
  match pp, c, r with
  | none, none, r => trivial
  | some (j, o), some c, ⟨h1, h2, s, ro, e, h3, h4⟩ =>
    refine ⟨h1, h2, s, ro, e, k.get h3 (fun hm => ?_), h4.keep2 k hd⟩
    rcases hd j hm with h | ⟨es, h⟩
    · exact h h2
    · rw [h3] at h; cases h
theorem with_eq (E : LdFree ov) {s x : Int} (h0 : 0 ≤ s) (h7 : s ≤ 7) (x0 : 0 ≤ x) (x2 : x ≤ 2) (K : AV → AHeap → Prop) :
    FW PR G ov n_lead_set_int_with [.int .u64 s, .int .i64 x] h K = K (.int .u64 (withB s x)) h := by
  refine FW_eq (call_lead_set_int_with (E.no _ rfl) ?_) K
  have hs : s = 0 ∨ s = 1 ∨ s = 2 ∨ s = 3 ∨ s = 4 ∨ s = 5 ∨ s = 6 ∨ s = 7 := by omega
  have hx : x = 0 ∨ x = 1 ∨ x = 2 := by omega
  rcases hx with rfl | rfl | rfl <;> simp only [go_sem, ↓reduceIte, Nat.reduceAdd, Nat.reduceMul, Nat.reduceSub, Nat.reduceEqDiff, Nat.reduceLT, Nat.reduceLeDiff, Int.reduceEq, Int.reduceLT, Int.reduceLE, Int.reduceAdd, Int.reduceSub, Int.reduceNeg, Int.reduceToNat, c_lead_set_int_with] <;> rcases hs with rfl | rfl | rfl | rfl | rfl | rfl | rfl | rfl <;> simp only [rint, if_true] <;> simp only [go_sem, ↓reduceIte, Nat.reduceAdd, Nat.reduceMul, Nat.reduceSub, Nat.reduceEqDiff, Nat.reduceLT, Nat.reduceLeDiff, Int.reduceEq, Int.reduceLT, Int.reduceLE, Int.reduceAdd, Int.reduceSub, Int.reduceNeg, Int.reduceToNat] <;> rfl

theorem withB_le {s x : Int} (h0 : 0 ≤ s) (h7 : s ≤ 7) (x0 : 0 ≤ x) (x2 : x ≤ 2) : 0 ≤ withB s x ∧ withB s x ≤ 7 := by
  have hs : s = 0 ∨ s = 1 ∨ s = 2 ∨ s = 3 ∨ s = 4 ∨ s = 5 ∨ s = 6 ∨ s = 7 := by omega
  have hx : x = 0 ∨ x = 1 ∨ x = 2 := by omega
  rcases hx with rfl | rfl | rfl <;> rcases hs with rfl | rfl | rfl | rfl | rfl | rfl | rfl | rfl <;> decide

/-- votes that are told -/
def encVt (p : Vt × AV) : List AV := voteV p.1 p.2
def Votes (h : AHeap) (v : AV) (ps : List (Vt × AV)) (ids : List Nat) : Prop :=
  Sl h 4 v ps.length (ps.flatMap encVt) ids ∧ ∀ p ∈ ps, SlI h p.2 p.1.c.chain ids ∧ p.1.c.chain.length ≤ 2 ^ 36
def bind1 (f b : Int) (bs : List Vt) (v : Vt) : List Vt :=
  if f ≤ v.c.num ∧ v.bal < b ∧ ((bget bs v.c.num).map (·.bal)).getD 0 < v.bal then bset bs v else bs

theorem Promise_no (E : LdFree ov) (r : LdRep h i ids L) {who ballot : Int} {v : AV} (hn : ¬ (0 ≤ who ∧ who < 3)) (K : AV → AHeap → Prop) :
    FW PR G ov n_lead_Lead_Promise [.ptr (some (i, 0)), .int .i64 who, .int .i64 ballot, v] h K = K (.tuple [.bool false, .int .i64 9]) h := by
  obtain ⟨mp, pp, h1, h2, h3', h4, h5, h6⟩ := r
  rw [ldCells] at h2
  refine FW_eq (call_lead_Lead_Promise (E.no _ rfl) ?_) K
  simp only [go_sem, ↓reduceIte, Nat.reduceAdd, Nat.reduceMul, Nat.reduceSub, Nat.reduceEqDiff, Nat.reduceLT, Nat.reduceLeDiff, Int.reduceEq, Int.reduceLT, Int.reduceLE, Int.reduceAdd, Int.reduceSub, Int.reduceNeg, Int.reduceToNat, c_lead_Lead_Promise, master_at E h2, hn]
theorem Promise_state (E : LdFree ov) (r : LdRep h i ids L) {who ballot : Int} {v : AV} (hn : 0 ≤ who ∧ who < 3) (hs : ¬ (L.p = 1 ∧ ballot = L.b)) (K : AV → AHeap → Prop) :
    FW PR G ov n_lead_Lead_Promise [.ptr (some (i, 0)), .int .i64 who, .int .i64 ballot, v] h K = K (.tuple [.bool false, .int .i64 170]) h := by
  obtain ⟨mp, pp, h1, h2, h3', h4, h5, h6⟩ := r
  rw [ldCells] at h2
  refine FW_eq (call_lead_Lead_Promise (E.no _ rfl) ?_) K
  by_cases hp : L.p = 1
  · have hb : ¬ ballot = L.b := fun h => hs ⟨hp, h⟩
    simp only [go_sem, ↓reduceIte, Nat.reduceAdd, Nat.reduceMul, Nat.reduceSub, Nat.reduceEqDiff, Nat.reduceLT, Nat.reduceLeDiff, Int.reduceEq, Int.reduceLT, Int.reduceLE, Int.reduceAdd, Int.reduceSub, Int.reduceNeg, Int.reduceToNat, c_lead_Lead_Promise, master_at E h2, hn, cellAt, cellsAt, aput?, get_alloc_eq, get_alloc_lt, get_set_eq, get_set_lt, Nat.add_left_cancel_iff, Nat.add_eq_left, Nat.left_eq_add, Nat.lt_add_right_iff_pos, Nat.add_lt_add_iff_left, Nat.add_eq_zero_iff, Nat.zero_lt_succ, Nat.lt_add_one, List.length_cons, List.length_nil, Nat.le_refl, and_self, h2, hp, hb]
  · simp only [go_sem, ↓reduceIte, Nat.reduceAdd, Nat.reduceMul, Nat.reduceSub, Nat.reduceEqDiff, Nat.reduceLT, Nat.reduceLeDiff, Int.reduceEq, Int.reduceLT, Int.reduceLE, Int.reduceAdd, Int.reduceSub, Int.reduceNeg, Int.reduceToNat, c_lead_Lead_Promise, master_at E h2, hn, cellAt, cellsAt, aput?, get_alloc_eq, get_alloc_lt, get_set_eq, get_set_lt, Nat.add_left_cancel_iff, Nat.add_eq_left, Nat.left_eq_add, Nat.lt_add_right_iff_pos, Nat.add_lt_add_iff_left, Nat.add_eq_zero_iff, Nat.zero_lt_succ, Nat.lt_add_one, List.length_cons, List.length_nil, Nat.le_refl, and_self, h2, hp]

def foldB (L : LdS) (ps : List (Vt × AV)) : List Vt := ps.foldl (fun bs p => bind1 L.f L.b bs p.1) L.bounds
def promI (h : AHeap) (i : Nat) (ids : List Nat) (L : LdS) (w : Int) (v : AV) (ps : List (Vt × AV)) (f : Fr) (h' : AHeap) : Prop :=
  ∃ (k : Nat) (ids' : List Nat), f 0 = .ptr (some (i, 0)) ∧ f 41 = v ∧ f 42 = .int .i64 ps.length ∧ f 43 = .int .i64 k ∧ k ≤ ps.length ∧ Keep (i :: ids) h h' ∧
    LdRep h' i ids' { L with prom := w, bounds := foldB L (ps.take k) } ∧ ∀ j ∈ ids', j ∈ ids ∨ h.n ≤ j
def promM (n : Nat) (f : Fr) (_ : AHeap) : Nat := match f 43 with | .int _ k => (n - k).toNat | _ => 0

def PromPost (h : AHeap) (i : Nat) (ids : List Nat) (L : LdS) (who : Int) (ps : List (Vt × AV)) (u : AV) (h' : AHeap) : Prop :=
  u = .tuple [.bool (decide (2 ≤ pc3 (withB L.prom who))), .int .i64 0] ∧ Keep (i :: ids) h h' ∧
    ∃ ids', LdRep h' i ids' { L with prom := withB L.prom who, bounds := foldB L ps, p := if 2 ≤ pc3 (withB L.prom who) then 2 else 1 } ∧ ∀ j ∈ ids', j ∈ ids ∨ h.n ≤ j

set_option maxHeartbeats 2000000 in
theorem Promise_ok (E : LdEnv G ov) (hT : HasTab h) (r : LdRep h i ids L) {who : Int} {v : AV} {ps : List (Vt × AV)} {vids : List Nat} (hn : 0 ≤ who ∧ who < 3) (hp : L.p = 1) (hq : 0 ≤ L.prom ∧ L.prom ≤ 7)
    (hv : Votes h v ps vids) (hd : ∀ j ∈ vids, j ≠ i ∧ j ∉ ids) (hz : i ≠ 0 ∧ 0 ∉ ids) (hlen : ps.length ≤ 2 ^ 40) :
    FW PR G ov n_lead_Lead_Promise [.ptr (some (i, 0)), .int .i64 who, .int .i64 L.b, v] h (PromPost h i ids L who ps) := by
  have r0 := r
  obtain ⟨mp, pp, h1, h2, h3', h4, h5, h6⟩ := r
  rw [ldCells] at h2
  have hl2 := AHeap.get_lt h2
  have hwb := withB_le hq.1 hq.2 hn.1 (show who ≤ 2 by omega)
  refine call_lead_Lead_Promise (E.free.no _ rfl) ?_
  simp only [go_sem, ↓reduceIte, Nat.reduceAdd, Nat.reduceMul, Nat.reduceSub, Nat.reduceEqDiff, Nat.reduceLT, Nat.reduceLeDiff, Int.reduceEq, Int.reduceLT, Int.reduceLE, Int.reduceAdd, Int.reduceSub, Int.reduceNeg, Int.reduceToNat, c_lead_Lead_Promise, master_at E.free h2, hn, cellAt, cellsAt, aput?, get_alloc_eq, get_alloc_lt, get_set_eq, get_set_lt, Nat.add_left_cancel_iff, Nat.add_eq_left, Nat.left_eq_add, Nat.lt_add_right_iff_pos, Nat.add_lt_add_iff_left, Nat.add_eq_zero_iff, Nat.zero_lt_succ, Nat.lt_add_one, List.length_cons, List.length_nil, Nat.le_refl, and_self, h2, hp, with_eq E.free hq.1 hq.2 hn.1 (show who ≤ 2 by omega), hv.1.lenAt]
  refine WC_loop (promI h i ids L (withB L.prom who) v ps) (promM ps.length) ?init ?step
  case init =>
    refine ⟨0, ids, ?_, ?_, ?_, ?_, by omega, (Keep.refl _ _).set _ (.inl (by simp)), ⟨mp, pp, h1, ?_, ?_, ?_, h5, h6⟩, fun j hj => .inl hj⟩
    · simp only [go_sem, ↓reduceIte, Nat.reduceAdd, Nat.reduceMul, Nat.reduceSub, Nat.reduceEqDiff, Nat.reduceLT, Nat.reduceLeDiff, Int.reduceEq, Int.reduceLT, Int.reduceLE, Int.reduceAdd, Int.reduceSub, Int.reduceNeg, Int.reduceToNat]
    · simp only [go_sem, ↓reduceIte, Nat.reduceAdd, Nat.reduceMul, Nat.reduceSub, Nat.reduceEqDiff, Nat.reduceLT, Nat.reduceLeDiff, Int.reduceEq, Int.reduceLT, Int.reduceLE, Int.reduceAdd, Int.reduceSub, Int.reduceNeg, Int.reduceToNat]
    · simp only [go_sem, ↓reduceIte, Nat.reduceAdd, Nat.reduceMul, Nat.reduceSub, Nat.reduceEqDiff, Nat.reduceLT, Nat.reduceLeDiff, Int.reduceEq, Int.reduceLT, Int.reduceLE, Int.reduceAdd, Int.reduceSub, Int.reduceNeg, Int.reduceToNat]
    · simp only [go_sem, ↓reduceIte, Nat.reduceAdd, Nat.reduceMul, Nat.reduceSub, Nat.reduceEqDiff, Nat.reduceLT, Nat.reduceLeDiff, Int.reduceEq, Int.reduceLT, Int.reduceLE, Int.reduceAdd, Int.reduceSub, Int.reduceNeg, Int.reduceToNat]
    · rw [ldCells]
      simp only [go_sem, ↓reduceIte, Nat.reduceAdd, Nat.reduceMul, Nat.reduceSub, Nat.reduceEqDiff, Nat.reduceLT, Nat.reduceLeDiff, Int.reduceEq, Int.reduceLT, Int.reduceLE, Int.reduceAdd, Int.reduceSub, Int.reduceNeg, Int.reduceToNat, cellAt, cellsAt, aput?, get_alloc_eq, get_alloc_lt, get_set_eq, get_set_lt, Nat.add_left_cancel_iff, Nat.add_eq_left, Nat.left_eq_add, Nat.lt_add_right_iff_pos, Nat.add_lt_add_iff_left, Nat.add_eq_zero_iff, Nat.zero_lt_succ, Nat.lt_add_one, List.length_cons, List.length_nil, Nat.le_refl, and_self, hl2, hp]
    · exact h3'.keep (keep_set h i _) (by intro j hj; rw [List.mem_singleton.1 hj]; exact h1)
    · exact h4.keep (keep_set h i _) (by intro j hj; rw [List.mem_singleton.1 hj]; exact h1)
  case step =>
    rintro f h' ⟨k, ids', f0, f41, f42, f43, hk, kp, rk, hi'⟩
    have hT' : HasTab h' := kp.get hT (by simp; exact ⟨hz.1.symm, hz.2⟩)
    obtain ⟨mp', pp', q1, q2, q3, q4, q5, q6⟩ := rk
    have hmp : ∃ m, mp' = some m := by
      cases mp' with
      | none => exact absurd rfl (q5 (by show L.p ≠ 0; omega))
      | some m => exact ⟨m, rfl⟩
    obtain ⟨m, rfl⟩ := hmp
    obtain ⟨m1, es, m2, m3⟩ := q3
    rw [ldCells] at q2
    have hl3 := AHeap.get_lt q2
    by_cases hlt : k < ps.length
    case neg =>
      have e1 : ¬ ((k : Int) < (ps.length : Int)) := by omega
      have e2 : ps.take k = ps := List.take_of_length_le (by omega)
      have ids2 : ∀ j ∈ ids', j ≠ i := fun j hj hji => q1 (by rw [← hji]; exact hj)
      by_cases hen : 2 ≤ pc3 (withB L.prom who)
      · simp only [go_sem, ↓reduceIte, Nat.reduceAdd, Nat.reduceMul, Nat.reduceSub, Nat.reduceEqDiff, Nat.reduceLT, Nat.reduceLeDiff, Int.reduceEq, Int.reduceLT, Int.reduceLE, Int.reduceAdd, Int.reduceSub, Int.reduceNeg, Int.reduceToNat, c_lead_Lead_Promise_l0, f0, f41, f42, f43, e1, cellAt, cellsAt, aput?, get_alloc_eq, get_alloc_lt, get_set_eq, get_set_lt, Nat.add_left_cancel_iff, Nat.add_eq_left, Nat.left_eq_add, Nat.lt_add_right_iff_pos, Nat.add_lt_add_iff_left, Nat.add_eq_zero_iff, Nat.zero_lt_succ, Nat.lt_add_one, List.length_cons, List.length_nil, Nat.le_refl, and_self, q2, fun K => E.enough h' K (withB L.prom who) hT' hwb.1 hwb.2, hen, hl3]
        refine ⟨by simp [hen], kp.set _ (.inl (by simp)), ids', ⟨some m, pp', q1, ?_, ?_, ?_, by simp, q6⟩, hi'⟩
        · rw [ldCells]; simp only [go_sem, ↓reduceIte, Nat.reduceAdd, Nat.reduceMul, Nat.reduceSub, Nat.reduceEqDiff, Nat.reduceLT, Nat.reduceLeDiff, Int.reduceEq, Int.reduceLT, Int.reduceLE, Int.reduceAdd, Int.reduceSub, Int.reduceNeg, Int.reduceToNat, cellAt, cellsAt, aput?, get_alloc_eq, get_alloc_lt, get_set_eq, get_set_lt, Nat.add_left_cancel_iff, Nat.add_eq_left, Nat.left_eq_add, Nat.lt_add_right_iff_pos, Nat.add_lt_add_iff_left, Nat.add_eq_zero_iff, Nat.zero_lt_succ, Nat.lt_add_one, List.length_cons, List.length_nil, Nat.le_refl, and_self, hl3, hen]
        · rw [← e2]
          exact MapRep.keep (keep_set h' i _) (by intro j hj; rw [List.mem_singleton.1 hj]; exact q1) (show MapRep h' ids' (some m) (foldB L (ps.take k)) from ⟨m1, es, m2, m3⟩)
        · exact q4.keep (keep_set h' i _) (by intro j hj; rw [List.mem_singleton.1 hj]; exact q1)
      · simp only [go_sem, ↓reduceIte, Nat.reduceAdd, Nat.reduceMul, Nat.reduceSub, Nat.reduceEqDiff, Nat.reduceLT, Nat.reduceLeDiff, Int.reduceEq, Int.reduceLT, Int.reduceLE, Int.reduceAdd, Int.reduceSub, Int.reduceNeg, Int.reduceToNat, c_lead_Lead_Promise_l0, f0, f41, f42, f43, e1, cellAt, cellsAt, aput?, get_alloc_eq, get_alloc_lt, get_set_eq, get_set_lt, Nat.add_left_cancel_iff, Nat.add_eq_left, Nat.left_eq_add, Nat.lt_add_right_iff_pos, Nat.add_lt_add_iff_left, Nat.add_eq_zero_iff, Nat.zero_lt_succ, Nat.lt_add_one, List.length_cons, List.length_nil, Nat.le_refl, and_self, q2, fun K => E.enough h' K (withB L.prom who) hT' hwb.1 hwb.2, hen, hl3, hp]
        refine ⟨by simp [hen], kp, ids', ⟨some m, pp', q1, ?_, ?_, q4, by simp, q6⟩, hi'⟩
        · rw [ldCells, q2]; simp only [go_sem, ↓reduceIte, Nat.reduceAdd, Nat.reduceMul, Nat.reduceSub, Nat.reduceEqDiff, Nat.reduceLT, Nat.reduceLeDiff, Int.reduceEq, Int.reduceLT, Int.reduceLE, Int.reduceAdd, Int.reduceSub, Int.reduceNeg, Int.reduceToNat, hp, hen]
        · rw [← e2]
          exact ⟨m1, es, m2, m3⟩
    obtain ⟨j, off, cap, op, c, ro, e, rfl, hj, hgj, hb, hd4, _, _, _⟩ := hv.1.elem (enc := encVt) (fun a => rfl) (by omega) (List.getElem?_eq_getElem hlt)
    have hpm := hv.2 _ (List.getElem_mem hlt)
    have etk : ps.take (k + 1) = ps.take k ++ [ps[k]] := (List.take_succ_eq_append_getElem hlt)
    generalize ps[k] = p at hd4 hpm etk
    obtain ⟨⟨pb, pc⟩, s⟩ := p
    simp only [encVt, voteV] at hd4
    simp only at hpm
    have hgj' := kp.get hgj (by simp; exact hd j hj)
    have e1 : ((k : Int) < (ps.length : Int)) := by omega
    have e3 : (0 : Int) ≤ (k : Int) := by omega
    have lm := AHeap.get_lt m2
    have lj := AHeap.get_lt hgj'
    have nm : m ≠ h'.n := by omega
    have hb' : off + (k * 4 + 4) ≤ c.length := by omega
    have hsl := hpm.1.leaf
    have ni : i ≠ h'.n := by omega
    have nj : j ≠ h'.n := by omega
    have e5 : IntKind.i64.wrap ((k : Int) + 1) = (k : Int) + 1 := i64_id (by omega) (by omega)
    obtain ⟨bs, hbs⟩ : ∃ bs, bs = foldB L (ps.take k) := ⟨_, rfl⟩
    have hstep : foldB L (ps.take (k + 1)) = bind1 L.f L.b bs ⟨pb, pc⟩ := by rw [hbs, etk]; simp [foldB]
    have m3' : Ents h' ids' es bs := by rw [hbs]; exact m3
    have hlk : ∃ (y : Option (Nat × AV)) (ob : Int) (o1 o2 o3 : AV), afind (.int .i64 pc.num) es = some y ∧ ((bget bs pc.num).map (·.bal)).getD 0 = ob ∧ (y.map (·.2)).getD (.agg [.int .i64 0, .int .i64 0, .int .i64 0, .slice none 0 0 none false]) = .agg [.int .i64 ob, o1, o2, o3] := by
      rcases afind_ents (x := pc.num) m3' with ⟨w1, w2⟩ | ⟨k', b', s', w1, w2, _, _⟩
      · exact ⟨none, 0, _, _, _, w2, by rw [w1]; rfl, rfl⟩
      · exact ⟨some (k', _), b'.bal, _, _, _, w2, by rw [w1]; rfl, rfl⟩
    obtain ⟨y, ob, o1, o2, o3, y1, y2, y3⟩ := hlk
    have kk : Keep [] h' ((h'.alloc (.cells [.int .i64 0, .int .i64 0, .int .i64 0, .slice none 0 0 none false] false 1)).set h'.n (.cells [.int .i64 pb, .int .i64 pc.num, .int .i64 pc.full, s] false 1)) := ((Keep.refl [] h').alloc _).set _ (.inr (Nat.le_refl _))
    have hl : F_lookup (.int .i64) (.agg [.int .i64 0, .int .i64 0, .int .i64 0, .slice none 0 0 none false]) false ((h'.alloc (.cells [.int .i64 0, .int .i64 0, .int .i64 0, .slice none 0 0 none false] false 1)).set h'.n (.cells [.int .i64 pb, .int .i64 pc.num, .int .i64 pc.full, s] false 1)) [.map (some m), .int .i64 pc.num] = some (.agg [.int .i64 ob, o1, o2, o3], (h'.alloc (.cells [.int .i64 0, .int .i64 0, .int .i64 0, .slice none 0 0 none false] false 1)).set h'.n (.cells [.int .i64 pb, .int .i64 pc.num, .int .i64 pc.full, s] false 1)) := by
      simp only [F_lookup, mapOf, kk.get m2 (List.not_mem_nil), keyFits, y1, if_true]
      cases y with
      | none =>
        have y3' : AV.agg [.int .i64 0, .int .i64 0, .int .i64 0, .slice none 0 0 none false] = .agg [.int .i64 ob, o1, o2, o3] := y3
        simp only [y3', Bool.false_eq_true, if_false]
      | some z =>
        have y3' : z.2 = .agg [.int .i64 ob, o1, o2, o3] := y3
        simp only [y3', Bool.false_eq_true, if_false]
    by_cases c1 : L.f ≤ pc.num
    case neg =>
      simp only [go_sem, ↓reduceIte, Nat.reduceAdd, Nat.reduceMul, Nat.reduceSub, Nat.reduceEqDiff, Nat.reduceLT, Nat.reduceLeDiff, Int.reduceEq, Int.reduceLT, Int.reduceLE, Int.reduceAdd, Int.reduceSub, Int.reduceNeg, Int.reduceToNat, c_lead_Lead_Promise_l0, f0, f41, f42, f43, e1, e3, cellAt, cellsAt, aput?, get_alloc_eq, get_alloc_lt, get_set_eq, get_set_lt, Nat.add_left_cancel_iff, Nat.add_eq_left, Nat.left_eq_add, Nat.lt_add_right_iff_pos, Nat.add_lt_add_iff_left, Nat.add_eq_zero_iff, Nat.zero_lt_succ, Nat.lt_add_one, List.length_cons, List.length_nil, Nat.le_refl, and_self, q2, hgj', hb', hsl, hd4, Int.toNat_natCast, nm, ni, nj, m2, e5, c1]
      have hb1 : bind1 L.f L.b bs ⟨pb, pc⟩ = bs := if_neg (fun h => c1 h.1)
      refine ⟨⟨k + 1, ids', ?_, ?_, ?_, ?_, by omega, (kp.alloc _).set _ (.inr (by have := kp.1; omega)), ⟨some m, pp', q1, ?_, ?_, ?_, q5, fun j hj => Nat.lt_succ_of_lt (q6 j hj)⟩, hi'⟩, ?_⟩
      · simp only [go_sem, ↓reduceIte, Nat.reduceAdd, Nat.reduceMul, Nat.reduceSub, Nat.reduceEqDiff, Nat.reduceLT, Nat.reduceLeDiff, Int.reduceEq, Int.reduceLT, Int.reduceLE, Int.reduceAdd, Int.reduceSub, Int.reduceNeg, Int.reduceToNat, f0]
      · simp only [go_sem, ↓reduceIte, Nat.reduceAdd, Nat.reduceMul, Nat.reduceSub, Nat.reduceEqDiff, Nat.reduceLT, Nat.reduceLeDiff, Int.reduceEq, Int.reduceLT, Int.reduceLE, Int.reduceAdd, Int.reduceSub, Int.reduceNeg, Int.reduceToNat, f41]
      · simp only [go_sem, ↓reduceIte, Nat.reduceAdd, Nat.reduceMul, Nat.reduceSub, Nat.reduceEqDiff, Nat.reduceLT, Nat.reduceLeDiff, Int.reduceEq, Int.reduceLT, Int.reduceLE, Int.reduceAdd, Int.reduceSub, Int.reduceNeg, Int.reduceToNat, f42]
      · simp only [go_sem, ↓reduceIte, Nat.reduceAdd, Nat.reduceMul, Nat.reduceSub, Nat.reduceEqDiff, Nat.reduceLT, Nat.reduceLeDiff, Int.reduceEq, Int.reduceLT, Int.reduceLE, Int.reduceAdd, Int.reduceSub, Int.reduceNeg, Int.reduceToNat]
        rfl
      · rw [ldCells]; simp only [go_sem, ↓reduceIte, Nat.reduceAdd, Nat.reduceMul, Nat.reduceSub, Nat.reduceEqDiff, Nat.reduceLT, Nat.reduceLeDiff, Int.reduceEq, Int.reduceLT, Int.reduceLE, Int.reduceAdd, Int.reduceSub, Int.reduceNeg, Int.reduceToNat, cellAt, cellsAt, aput?, get_alloc_eq, get_alloc_lt, get_set_eq, get_set_lt, Nat.add_left_cancel_iff, Nat.add_eq_left, Nat.left_eq_add, Nat.lt_add_right_iff_pos, Nat.add_lt_add_iff_left, Nat.add_eq_zero_iff, Nat.zero_lt_succ, Nat.lt_add_one, List.length_cons, List.length_nil, Nat.le_refl, and_self, ni, q2]
      · rw [hstep, hb1]
        exact MapRep.keep kk (by simp) (show MapRep h' ids' (some m) bs from ⟨m1, es, m2, m3'⟩)
      · exact q4.keep kk (by simp)
      · simp only [promM, f43]
        simp only [go_sem, ↓reduceIte, Nat.reduceAdd, Nat.reduceMul, Nat.reduceSub, Nat.reduceEqDiff, Nat.reduceLT, Nat.reduceLeDiff, Int.reduceEq, Int.reduceLT, Int.reduceLE, Int.reduceAdd, Int.reduceSub, Int.reduceNeg, Int.reduceToNat]
        omega
    by_cases c2 : pb < L.b
    case neg =>
      simp only [go_sem, ↓reduceIte, Nat.reduceAdd, Nat.reduceMul, Nat.reduceSub, Nat.reduceEqDiff, Nat.reduceLT, Nat.reduceLeDiff, Int.reduceEq, Int.reduceLT, Int.reduceLE, Int.reduceAdd, Int.reduceSub, Int.reduceNeg, Int.reduceToNat, c_lead_Lead_Promise_l0, f0, f41, f42, f43, e1, e3, cellAt, cellsAt, aput?, get_alloc_eq, get_alloc_lt, get_set_eq, get_set_lt, Nat.add_left_cancel_iff, Nat.add_eq_left, Nat.left_eq_add, Nat.lt_add_right_iff_pos, Nat.add_lt_add_iff_left, Nat.add_eq_zero_iff, Nat.zero_lt_succ, Nat.lt_add_one, List.length_cons, List.length_nil, Nat.le_refl, and_self, q2, hgj', hb', hsl, hd4, Int.toNat_natCast, nm, ni, nj, m2, e5, c1, c2]
      have hb1 : bind1 L.f L.b bs ⟨pb, pc⟩ = bs := if_neg (fun h => c2 h.2.1)
      refine ⟨⟨k + 1, ids', ?_, ?_, ?_, ?_, by omega, (kp.alloc _).set _ (.inr (by have := kp.1; omega)), ⟨some m, pp', q1, ?_, ?_, ?_, q5, fun j hj => Nat.lt_succ_of_lt (q6 j hj)⟩, hi'⟩, ?_⟩
      · simp only [go_sem, ↓reduceIte, Nat.reduceAdd, Nat.reduceMul, Nat.reduceSub, Nat.reduceEqDiff, Nat.reduceLT, Nat.reduceLeDiff, Int.reduceEq, Int.reduceLT, Int.reduceLE, Int.reduceAdd, Int.reduceSub, Int.reduceNeg, Int.reduceToNat, f0]
      · simp only [go_sem, ↓reduceIte, Nat.reduceAdd, Nat.reduceMul, Nat.reduceSub, Nat.reduceEqDiff, Nat.reduceLT, Nat.reduceLeDiff, Int.reduceEq, Int.reduceLT, Int.reduceLE, Int.reduceAdd, Int.reduceSub, Int.reduceNeg, Int.reduceToNat, f41]
      · simp only [go_sem, ↓reduceIte, Nat.reduceAdd, Nat.reduceMul, Nat.reduceSub, Nat.reduceEqDiff, Nat.reduceLT, Nat.reduceLeDiff, Int.reduceEq, Int.reduceLT, Int.reduceLE, Int.reduceAdd, Int.reduceSub, Int.reduceNeg, Int.reduceToNat, f42]
      · simp only [go_sem, ↓reduceIte, Nat.reduceAdd, Nat.reduceMul, Nat.reduceSub, Nat.reduceEqDiff, Nat.reduceLT, Nat.reduceLeDiff, Int.reduceEq, Int.reduceLT, Int.reduceLE, Int.reduceAdd, Int.reduceSub, Int.reduceNeg, Int.reduceToNat]
        rfl
      · rw [ldCells]; simp only [go_sem, ↓reduceIte, Nat.reduceAdd, Nat.reduceMul, Nat.reduceSub, Nat.reduceEqDiff, Nat.reduceLT, Nat.reduceLeDiff, Int.reduceEq, Int.reduceLT, Int.reduceLE, Int.reduceAdd, Int.reduceSub, Int.reduceNeg, Int.reduceToNat, cellAt, cellsAt, aput?, get_alloc_eq, get_alloc_lt, get_set_eq, get_set_lt, Nat.add_left_cancel_iff, Nat.add_eq_left, Nat.left_eq_add, Nat.lt_add_right_iff_pos, Nat.add_lt_add_iff_left, Nat.add_eq_zero_iff, Nat.zero_lt_succ, Nat.lt_add_one, List.length_cons, List.length_nil, Nat.le_refl, and_self, ni, q2]
      · rw [hstep, hb1]
        exact MapRep.keep kk (by simp) (show MapRep h' ids' (some m) bs from ⟨m1, es, m2, m3'⟩)
      · exact q4.keep kk (by simp)
      · simp only [promM, f43]
        simp only [go_sem, ↓reduceIte, Nat.reduceAdd, Nat.reduceMul, Nat.reduceSub, Nat.reduceEqDiff, Nat.reduceLT, Nat.reduceLeDiff, Int.reduceEq, Int.reduceLT, Int.reduceLE, Int.reduceAdd, Int.reduceSub, Int.reduceNeg, Int.reduceToNat]
        omega
    by_cases c3 : ob < pb
    case neg =>
      simp only [go_sem, ↓reduceIte, Nat.reduceAdd, Nat.reduceMul, Nat.reduceSub, Nat.reduceEqDiff, Nat.reduceLT, Nat.reduceLeDiff, Int.reduceEq, Int.reduceLT, Int.reduceLE, Int.reduceAdd, Int.reduceSub, Int.reduceNeg, Int.reduceToNat, c_lead_Lead_Promise_l0, f0, f41, f42, f43, e1, e3, cellAt, cellsAt, aput?, get_alloc_eq, get_alloc_lt, get_set_eq, get_set_lt, Nat.add_left_cancel_iff, Nat.add_eq_left, Nat.left_eq_add, Nat.lt_add_right_iff_pos, Nat.add_lt_add_iff_left, Nat.add_eq_zero_iff, Nat.zero_lt_succ, Nat.lt_add_one, List.length_cons, List.length_nil, Nat.le_refl, and_self, q2, hgj', hb', hsl, hd4, Int.toNat_natCast, nm, ni, nj, m2, e5, c1, c2, c3, hl]
      have hb1 : bind1 L.f L.b bs ⟨pb, pc⟩ = bs := if_neg (fun h => c3 (by rw [← y2]; exact h.2.2))
      refine ⟨⟨k + 1, ids', ?_, ?_, ?_, ?_, by omega, (kp.alloc _).set _ (.inr (by have := kp.1; omega)), ⟨some m, pp', q1, ?_, ?_, ?_, q5, fun j hj => Nat.lt_succ_of_lt (q6 j hj)⟩, hi'⟩, ?_⟩
      · simp only [go_sem, ↓reduceIte, Nat.reduceAdd, Nat.reduceMul, Nat.reduceSub, Nat.reduceEqDiff, Nat.reduceLT, Nat.reduceLeDiff, Int.reduceEq, Int.reduceLT, Int.reduceLE, Int.reduceAdd, Int.reduceSub, Int.reduceNeg, Int.reduceToNat, f0]
      · simp only [go_sem, ↓reduceIte, Nat.reduceAdd, Nat.reduceMul, Nat.reduceSub, Nat.reduceEqDiff, Nat.reduceLT, Nat.reduceLeDiff, Int.reduceEq, Int.reduceLT, Int.reduceLE, Int.reduceAdd, Int.reduceSub, Int.reduceNeg, Int.reduceToNat, f41]
      · simp only [go_sem, ↓reduceIte, Nat.reduceAdd, Nat.reduceMul, Nat.reduceSub, Nat.reduceEqDiff, Nat.reduceLT, Nat.reduceLeDiff, Int.reduceEq, Int.reduceLT, Int.reduceLE, Int.reduceAdd, Int.reduceSub, Int.reduceNeg, Int.reduceToNat, f42]
      · simp only [go_sem, ↓reduceIte, Nat.reduceAdd, Nat.reduceMul, Nat.reduceSub, Nat.reduceEqDiff, Nat.reduceLT, Nat.reduceLeDiff, Int.reduceEq, Int.reduceLT, Int.reduceLE, Int.reduceAdd, Int.reduceSub, Int.reduceNeg, Int.reduceToNat]
        rfl
      · rw [ldCells]; simp only [go_sem, ↓reduceIte, Nat.reduceAdd, Nat.reduceMul, Nat.reduceSub, Nat.reduceEqDiff, Nat.reduceLT, Nat.reduceLeDiff, Int.reduceEq, Int.reduceLT, Int.reduceLE, Int.reduceAdd, Int.reduceSub, Int.reduceNeg, Int.reduceToNat, cellAt, cellsAt, aput?, get_alloc_eq, get_alloc_lt, get_set_eq, get_set_lt, Nat.add_left_cancel_iff, Nat.add_eq_left, Nat.left_eq_add, Nat.lt_add_right_iff_pos, Nat.add_lt_add_iff_left, Nat.add_eq_zero_iff, Nat.zero_lt_succ, Nat.lt_add_one, List.length_cons, List.length_nil, Nat.le_refl, and_self, ni, q2]
      · rw [hstep, hb1]
        exact MapRep.keep kk (by simp) (show MapRep h' ids' (some m) bs from ⟨m1, es, m2, m3'⟩)
      · exact q4.keep kk (by simp)
      · simp only [promM, f43]
        simp only [go_sem, ↓reduceIte, Nat.reduceAdd, Nat.reduceMul, Nat.reduceSub, Nat.reduceEqDiff, Nat.reduceLT, Nat.reduceLeDiff, Int.reduceEq, Int.reduceLT, Int.reduceLE, Int.reduceAdd, Int.reduceSub, Int.reduceNeg, Int.reduceToNat]
        omega
    simp only [go_sem, ↓reduceIte, Nat.reduceAdd, Nat.reduceMul, Nat.reduceSub, Nat.reduceEqDiff, Nat.reduceLT, Nat.reduceLeDiff, Int.reduceEq, Int.reduceLT, Int.reduceLE, Int.reduceAdd, Int.reduceSub, Int.reduceNeg, Int.reduceToNat, c_lead_Lead_Promise_l0, f0, f41, f42, f43, e1, e3, cellAt, cellsAt, aput?, get_alloc_eq, get_alloc_lt, get_set_eq, get_set_lt, Nat.add_left_cancel_iff, Nat.add_eq_left, Nat.left_eq_add, Nat.lt_add_right_iff_pos, Nat.add_lt_add_iff_left, Nat.add_eq_zero_iff, Nat.zero_lt_succ, Nat.lt_add_one, List.length_cons, List.length_nil, Nat.le_refl, and_self, q2, hgj', hb', hsl, hd4, Int.toNat_natCast, nm, ni, nj, m2, e5, c1, c2, c3, hl]
    obtain ⟨hX, hXd⟩ : ∃ hX, hX = (h'.alloc (.cells [.int .i64 0, .int .i64 0, .int .i64 0, .slice none 0 0 none false] false 1)).set h'.n (.cells [.int .i64 pb, .int .i64 pc.num, .int .i64 pc.full, s] false 1) := ⟨_, rfl⟩
    have gX : hX.get h'.n = some (.cells [.int .i64 pb, .int .i64 pc.num, .int .i64 pc.full, s] false 1) := by rw [hXd]; exact get_set_self' (by rw [AHeap.n_alloc]; omega)
    rw [← hXd] at kk ⊢
    have hd' : ∀ q ∈ i :: ids, q ∉ vids := by
      intro q hq hqv
      have := hd q hqv
      rcases List.mem_cons.1 hq with rfl | hq
      · exact this.1 rfl
      · exact this.2 hq
    refine (copied_ok E.free ((hpm.1.keep kp hd').keep kk (by simp)) hpm.2).mono ?_
    rintro v2 h4 ⟨s2, ids2', rfl, k4, hs2', hf2'⟩
    obtain ⟨ids2, hi2d⟩ : ∃ x, x = ids2'.filter (· < h4.n) := ⟨_, rfl⟩
    have hs2 : SlI h4 s2 pc.chain ids2 := by rw [hi2d]; exact hs2'.bounded
    have hf2 : ∀ j ∈ ids2, hX.n ≤ j := fun j hj => hf2' j (List.mem_filter.1 (by rw [hi2d] at hj; exact hj)).1
    have hf3 : ∀ j ∈ ids2, j < h4.n := fun j hj => by rw [hi2d] at hj; simpa using (List.mem_filter.1 hj).2
    have g4 := k4.get gX (List.not_mem_nil)
    have gi4 := k4.get (kk.get q2 (List.not_mem_nil)) (List.not_mem_nil)
    have gm4 := k4.get (kk.get m2 (List.not_mem_nil)) (List.not_mem_nil)
    have l4 := AHeap.get_lt g4
    have hs2l := hs2.leaf
    have nmm : h'.n ≠ m := by omega
    have nmi : ¬ h'.n = i := by omega
    have him : ¬ i = m := by rintro rfl; exact q1 m1
    have lm4 := AHeap.get_lt gm4
    have li4 := AHeap.get_lt gi4
    have nX : hX.n = h'.n + 1 := by rw [hXd]; rfl
    have k5 : Keep [h'.n] h4 (h4.set h'.n (.cells [.int .i64 pb, .int .i64 pc.num, .int .i64 pc.full, s2] false 1)) := keep_set _ _ _
    have hn2 : ∀ j ∈ ids2, j ≠ h'.n := fun j hj => by have := hf2 j hj; omega
    have hni : ∀ j ∈ ids', j ≠ h'.n := fun j hj hjn => by have := q6 j hj; omega
    have E5 : Ents (h4.set h'.n (.cells [.int .i64 pb, .int .i64 pc.num, .int .i64 pc.full, s2] false 1)) (ids' ++ ids2) es bs :=
      Ents.mono (fun j hj => List.mem_append_left _ hj) (Ents.keep k5 (by intro j hj hj2; rw [List.mem_singleton.1 hj] at hj2; exact hni _ hj2 rfl) (Ents.keep k4 (by simp) (Ents.keep kk (by simp) m3')))
    have S5 : SlI (h4.set h'.n (.cells [.int .i64 pb, .int .i64 pc.num, .int .i64 pc.full, s2] false 1)) s2 pc.chain (ids' ++ ids2) :=
      (hs2.keep k5 (by intro j hj hj2; rw [List.mem_singleton.1 hj] at hj2; exact hn2 _ hj2 rfl)).mono (fun j hj => List.mem_append_right _ hj)
    have hb1 : bind1 L.f L.b bs ⟨pb, pc⟩ = bset bs ⟨pb, pc⟩ := if_pos ⟨c1, c2, by rw [y2]; exact c3⟩
    have m1' : m ∈ ids' ++ ids2 := List.mem_append_left _ m1
    have P5 : PendRep (h4.set h'.n (.cells [.int .i64 pb, .int .i64 pc.num, .int .i64 pc.full, s2] false 1)) (ids' ++ ids2) pp' L.pend :=
      PendRep.mono (fun j hj => List.mem_append_left _ hj) (PendRep.keep k5 (by intro j hj hj2; rw [List.mem_singleton.1 hj] at hj2; exact hni _ hj2 rfl) (PendRep.keep k4 (by simp) (PendRep.keep kk (by simp) q4)))
    have i1 : i ∉ ids' ++ ids2 := by
      intro hj
      rcases List.mem_append.1 hj with hj | hj
      · exact q1 hj
      · have := hf2 i hj
        omega
    have lm5 : m < (h4.set h'.n (.cells [.int .i64 pb, .int .i64 pc.num, .int .i64 pc.full, s2] false 1)).n := lm4
    have gm5 : (h4.set h'.n (.cells [.int .i64 pb, .int .i64 pc.num, .int .i64 pc.full, s2] false 1)).get m = some (.map es) := k5.get gm4 (by simp; omega)
    have gi5 := k5.get gi4 (by simp; omega)
    have hb2 : ∀ j ∈ ids' ++ ids2, j < h4.n := by
      intro j hj
      rcases List.mem_append.1 hj with hj | hj
      · have := q6 j hj
        have := kk.1
        have := k4.1
        omega
      · exact hf3 j hj
    have hb3 : ∀ j ∈ ids' ++ ids2, j ∈ ids ∨ h.n ≤ j := by
      intro j hj
      rcases List.mem_append.1 hj with hj | hj
      · exact hi' j hj
      · refine .inr ?_
        have := hf2 j hj
        have := kp.1
        omega
    have kall : ∀ es', Keep (i :: ids) h ((h4.set h'.n (.cells [.int .i64 pb, .int .i64 pc.num, .int .i64 pc.full, s2] false 1)).set m (.map es')) := fun es' => by
      refine Keep.set (Keep.set ((kp.then0 kk).then0 k4) _ (.inr kp.1)) _ ?_
      rcases hi' m m1 with h | h
      · exact .inl (List.mem_cons_of_mem _ h)
      · exact .inr h
    have fin : ∀ es', Ents (h4.set h'.n (.cells [.int .i64 pb, .int .i64 pc.num, .int .i64 pc.full, s2] false 1)) (ids' ++ ids2) es' (bset bs ⟨pb, pc⟩) →
        LdRep ((h4.set h'.n (.cells [.int .i64 pb, .int .i64 pc.num, .int .i64 pc.full, s2] false 1)).set m (.map es')) i (ids' ++ ids2) { L with prom := withB L.prom who, bounds := foldB L (ps.take (k + 1)) } := fun es' u2 => by
      have k6 := keep_set (h4.set h'.n (.cells [.int .i64 pb, .int .i64 pc.num, .int .i64 pc.full, s2] false 1)) m (.map es')
      have nc : NC (h4.set h'.n (.cells [.int .i64 pb, .int .i64 pc.num, .int .i64 pc.full, s2] false 1)) (ids' ++ ids2) [m] := fun j hj => by
        rw [List.mem_singleton.1 hj]
        exact .inr ⟨es, gm5⟩
      refine ⟨some m, pp', i1, ?_, ⟨m1', es', get_set_self' lm5, ?_⟩, P5.keep2 k6 nc, by simp, hb2⟩
      · rw [ldCells]
        exact k6.get gi5 (by simp; exact him)
      · rw [hstep, hb1]
        exact u2.keep2 k6 nc
    rcases ents_set (v := ⟨pb, pc⟩) S5 E5 with ⟨u1, u2⟩ | ⟨k7, y7, u1, u2⟩
    · simp only [go_sem, ↓reduceIte, Nat.reduceAdd, Nat.reduceMul, Nat.reduceSub, Nat.reduceEqDiff, Nat.reduceLT, Nat.reduceLeDiff, Int.reduceEq, Int.reduceLT, Int.reduceLE, Int.reduceAdd, Int.reduceSub, Int.reduceNeg, Int.reduceToNat, f0, f41, f42, f43, ni, him, cellAt, cellsAt, aput?, get_alloc_eq, get_alloc_lt, get_set_eq, get_set_lt, Nat.add_left_cancel_iff, Nat.add_eq_left, Nat.left_eq_add, Nat.lt_add_right_iff_pos, Nat.add_lt_add_iff_left, Nat.add_eq_zero_iff, Nat.zero_lt_succ, Nat.lt_add_one, List.length_cons, List.length_nil, Nat.le_refl, and_self, g4, hs2l, l4, gm4, gi4, nm, nmm, nmi, keyFits, u1, e5]
      refine ⟨⟨k + 1, ids' ++ ids2, ?_, ?_, ?_, ?_, by omega, kall _, fin _ u2, hb3⟩, ?_⟩
      · simp only [go_sem, ↓reduceIte, Nat.reduceAdd, Nat.reduceMul, Nat.reduceSub, Nat.reduceEqDiff, Nat.reduceLT, Nat.reduceLeDiff, Int.reduceEq, Int.reduceLT, Int.reduceLE, Int.reduceAdd, Int.reduceSub, Int.reduceNeg, Int.reduceToNat, f0]
      · simp only [go_sem, ↓reduceIte, Nat.reduceAdd, Nat.reduceMul, Nat.reduceSub, Nat.reduceEqDiff, Nat.reduceLT, Nat.reduceLeDiff, Int.reduceEq, Int.reduceLT, Int.reduceLE, Int.reduceAdd, Int.reduceSub, Int.reduceNeg, Int.reduceToNat, f41]
      · simp only [go_sem, ↓reduceIte, Nat.reduceAdd, Nat.reduceMul, Nat.reduceSub, Nat.reduceEqDiff, Nat.reduceLT, Nat.reduceLeDiff, Int.reduceEq, Int.reduceLT, Int.reduceLE, Int.reduceAdd, Int.reduceSub, Int.reduceNeg, Int.reduceToNat, f42]
      · simp only [go_sem, ↓reduceIte, Nat.reduceAdd, Nat.reduceMul, Nat.reduceSub, Nat.reduceEqDiff, Nat.reduceLT, Nat.reduceLeDiff, Int.reduceEq, Int.reduceLT, Int.reduceLE, Int.reduceAdd, Int.reduceSub, Int.reduceNeg, Int.reduceToNat]
        rfl
      · simp only [promM, f43]
        simp only [go_sem, ↓reduceIte, Nat.reduceAdd, Nat.reduceMul, Nat.reduceSub, Nat.reduceEqDiff, Nat.reduceLT, Nat.reduceLeDiff, Int.reduceEq, Int.reduceLT, Int.reduceLE, Int.reduceAdd, Int.reduceSub, Int.reduceNeg, Int.reduceToNat]
        omega
    · simp only [go_sem, ↓reduceIte, Nat.reduceAdd, Nat.reduceMul, Nat.reduceSub, Nat.reduceEqDiff, Nat.reduceLT, Nat.reduceLeDiff, Int.reduceEq, Int.reduceLT, Int.reduceLE, Int.reduceAdd, Int.reduceSub, Int.reduceNeg, Int.reduceToNat, f0, f41, f42, f43, ni, him, cellAt, cellsAt, aput?, get_alloc_eq, get_alloc_lt, get_set_eq, get_set_lt, Nat.add_left_cancel_iff, Nat.add_eq_left, Nat.left_eq_add, Nat.lt_add_right_iff_pos, Nat.add_lt_add_iff_left, Nat.add_eq_zero_iff, Nat.zero_lt_succ, Nat.lt_add_one, List.length_cons, List.length_nil, Nat.le_refl, and_self, g4, hs2l, l4, gm4, gi4, nm, nmm, nmi, keyFits, u1, e5]
      refine ⟨⟨k + 1, ids' ++ ids2, ?_, ?_, ?_, ?_, by omega, kall _, fin _ u2, hb3⟩, ?_⟩
      · simp only [go_sem, ↓reduceIte, Nat.reduceAdd, Nat.reduceMul, Nat.reduceSub, Nat.reduceEqDiff, Nat.reduceLT, Nat.reduceLeDiff, Int.reduceEq, Int.reduceLT, Int.reduceLE, Int.reduceAdd, Int.reduceSub, Int.reduceNeg, Int.reduceToNat, f0]
      · simp only [go_sem, ↓reduceIte, Nat.reduceAdd, Nat.reduceMul, Nat.reduceSub, Nat.reduceEqDiff, Nat.reduceLT, Nat.reduceLeDiff, Int.reduceEq, Int.reduceLT, Int.reduceLE, Int.reduceAdd, Int.reduceSub, Int.reduceNeg, Int.reduceToNat, f41]
      · simp only [go_sem, ↓reduceIte, Nat.reduceAdd, Nat.reduceMul, Nat.reduceSub, Nat.reduceEqDiff, Nat.reduceLT, Nat.reduceLeDiff, Int.reduceEq, Int.reduceLT, Int.reduceLE, Int.reduceAdd, Int.reduceSub, Int.reduceNeg, Int.reduceToNat, f42]
      · simp only [go_sem, ↓reduceIte, Nat.reduceAdd, Nat.reduceMul, Nat.reduceSub, Nat.reduceEqDiff, Nat.reduceLT, Nat.reduceLeDiff, Int.reduceEq, Int.reduceLT, Int.reduceLE, Int.reduceAdd, Int.reduceSub, Int.reduceNeg, Int.reduceToNat]
        rfl
      · simp only [promM, f43]
        simp only [go_sem, ↓reduceIte, Nat.reduceAdd, Nat.reduceMul, Nat.reduceSub, Nat.reduceEqDiff, Nat.reduceLT, Nat.reduceLeDiff, Int.reduceEq, Int.reduceLT, Int.reduceLE, Int.reduceAdd, Int.reduceSub, Int.reduceNeg, Int.reduceToNat]
        omega
end
end Go.Sv
namespace Go.Sv
open Go Go.Proofs Go.Sx Go.RowKit
set_option maxRecDepth 100000

section
variable {G : Nat → Option Nat} {ov : Ovs} {h : AHeap} {i : Nat} {ids : List Nat} {L : LdS}

theorem Sl.at1 {h : AHeap} {v : AV} {xs : List Int} {ids : List Nat} (s : SlI h v xs ids) {k : Nat} (hk : k < xs.length) :
    ∃ j off cap op c ro e, v = .slice (some (j, off)) xs.length cap none op ∧ j ∈ ids ∧ h.get j = some (.cells c ro e) ∧ c[off + k]? = some (.int .i64 xs[k]) := by
  obtain ⟨a, cap, z, op, h1, h2, h2a, h3, h4⟩ := s
  rcases h4 with ⟨h4, _⟩ | ⟨i, off, c, ro, e, h5, h6, h7, h8, h9, h10⟩
  · omega
  · subst h5 h6
    refine ⟨i, off, cap, op, c, ro, e, h1, h7, h8, ?_⟩
    have : (xs.map (AV.int .i64))[k]? = some (.int .i64 xs[k]) := by simp [hk]
    rw [h10, List.getElem?_take, if_pos (by omega), List.getElem?_drop] at this
    exact this

def eqI (a b : AV) (xs ys : List Int) (h : AHeap) (f : Fr) (h' : AHeap) : Prop :=
  ∃ k : Nat, f 0 = a ∧ f 1 = b ∧ f 4 = .bool false ∧ f 5 = .int .i64 k ∧ k ≤ xs.length ∧ xs.take k = ys.take k ∧ h' = h
def eqM (n : Nat) (f : Fr) (_ : AHeap) : Nat := match f 5 with | .int _ k => (n - k).toNat | _ => 0

theorem EqInts_ok (hov : ov n_ref00_EqInts = none) {a b : AV} {xs ys : List Int} {ids ids2 : List Nat} (ha : SlI h a xs ids) (hb : SlI h b ys ids2) (hl : xs.length ≤ 2 ^ 60) (K : AV → AHeap → Prop) :
    FW PR G ov n_ref00_EqInts [a, b] h K = K (.bool (decide (xs = ys))) h := by
  refine FW_eq (call_ref00_EqInts hov ?_) K
  by_cases hn : xs.length = ys.length
  case neg =>
    have h1 : ¬ ((xs.length : Int) = (ys.length : Int)) := by omega
    have h2 : ¬ xs = ys := fun h => hn (by rw [h])
    simp only [go_sem, ↓reduceIte, Nat.reduceAdd, Nat.reduceMul, Nat.reduceSub, Nat.reduceEqDiff, Nat.reduceLT, Nat.reduceLeDiff, Int.reduceEq, Int.reduceLT, Int.reduceLE, Int.reduceAdd, Int.reduceSub, Int.reduceNeg, Int.reduceToNat, c_ref00_EqInts, ha.lenAt, hb.lenAt, h1, h2, decide_false]
  have h1 : ((xs.length : Int) = (ys.length : Int)) := by omega
  simp only [go_sem, ↓reduceIte, Nat.reduceAdd, Nat.reduceMul, Nat.reduceSub, Nat.reduceEqDiff, Nat.reduceLT, Nat.reduceLeDiff, Int.reduceEq, Int.reduceLT, Int.reduceLE, Int.reduceAdd, Int.reduceSub, Int.reduceNeg, Int.reduceToNat, c_ref00_EqInts, ha.lenAt, hb.lenAt, h1]
  refine WC_loop (eqI a b xs ys h) (eqM xs.length) ?init ?step
  case init =>
    refine ⟨0, ?_, ?_, ?_, ?_, by omega, rfl, rfl⟩
    · simp only [go_sem, ↓reduceIte, Nat.reduceAdd, Nat.reduceMul, Nat.reduceSub, Nat.reduceEqDiff, Nat.reduceLT, Nat.reduceLeDiff, Int.reduceEq, Int.reduceLT, Int.reduceLE, Int.reduceAdd, Int.reduceSub, Int.reduceNeg, Int.reduceToNat]
    · simp only [go_sem, ↓reduceIte, Nat.reduceAdd, Nat.reduceMul, Nat.reduceSub, Nat.reduceEqDiff, Nat.reduceLT, Nat.reduceLeDiff, Int.reduceEq, Int.reduceLT, Int.reduceLE, Int.reduceAdd, Int.reduceSub, Int.reduceNeg, Int.reduceToNat]
    · simp only [go_sem, ↓reduceIte, Nat.reduceAdd, Nat.reduceMul, Nat.reduceSub, Nat.reduceEqDiff, Nat.reduceLT, Nat.reduceLeDiff, Int.reduceEq, Int.reduceLT, Int.reduceLE, Int.reduceAdd, Int.reduceSub, Int.reduceNeg, Int.reduceToNat]
    · simp only [go_sem, ↓reduceIte, Nat.reduceAdd, Nat.reduceMul, Nat.reduceSub, Nat.reduceEqDiff, Nat.reduceLT, Nat.reduceLeDiff, Int.reduceEq, Int.reduceLT, Int.reduceLE, Int.reduceAdd, Int.reduceSub, Int.reduceNeg, Int.reduceToNat]
  case step =>
    rintro f h' ⟨k, f0, f1, f4, f5, hk, ht, rfl⟩
    by_cases hlt : k < xs.length
    case neg =>
      have e1 : ¬ ((k : Int) < (xs.length : Int)) := by omega
      have h2 : xs = ys := by rwa [List.take_of_length_le (by omega), List.take_of_length_le (by omega)] at ht
      have e2 : decide (xs = ys) = true := decide_eq_true h2
      rw [e2]
      simp only [go_sem, ↓reduceIte, Nat.reduceAdd, Nat.reduceMul, Nat.reduceSub, Nat.reduceEqDiff, Nat.reduceLT, Nat.reduceLeDiff, Int.reduceEq, Int.reduceLT, Int.reduceLE, Int.reduceAdd, Int.reduceSub, Int.reduceNeg, Int.reduceToNat, c_ref00_EqInts_l0, f0, f1, f4, f5, ha.lenAt, e1]
    have e1 : ((k : Int) < (xs.length : Int)) := by omega
    have e3 : (0 : Int) ≤ (k : Int) := by omega
    have e5 : IntKind.i64.wrap ((k : Int) + 1) = (k : Int) + 1 := i64_id (by omega) (by omega)
    have hlen := ha.lenAt
    have hky : k < ys.length := by omega
    obtain ⟨j, off, cap, op, c, ro, e, rfl, _, g1, g2⟩ := ha.at1 hlt
    obtain ⟨j', off', cap', op', c', ro', e', rfl, _, g3, g4⟩ := hb.at1 hky
    have e6 : ((k : Int) < (ys.length : Int)) := by omega
    by_cases hxy : xs[k] = ys[k]
    · simp only [go_sem, ↓reduceIte, Nat.reduceAdd, Nat.reduceMul, Nat.reduceSub, Nat.reduceEqDiff, Nat.reduceLT, Nat.reduceLeDiff, Int.reduceEq, Int.reduceLT, Int.reduceLE, Int.reduceAdd, Int.reduceSub, Int.reduceNeg, Int.reduceToNat, c_ref00_EqInts_l0, f0, f1, f4, f5, hlen, e1, e3, e6, cellAt, cellsAt, aput?, get_alloc_eq, get_alloc_lt, get_set_eq, get_set_lt, Nat.add_left_cancel_iff, Nat.add_eq_left, Nat.left_eq_add, Nat.lt_add_right_iff_pos, Nat.add_lt_add_iff_left, Nat.add_eq_zero_iff, Nat.zero_lt_succ, Nat.lt_add_one, List.length_cons, List.length_nil, Nat.le_refl, and_self, g1, g2, g3, g4, Int.toNat_natCast, Nat.mul_one, hxy, e5]
      refine ⟨⟨k + 1, ?_, ?_, ?_, ?_, by omega, ?_, rfl⟩, ?_⟩
      · simp only [go_sem, ↓reduceIte, Nat.reduceAdd, Nat.reduceMul, Nat.reduceSub, Nat.reduceEqDiff, Nat.reduceLT, Nat.reduceLeDiff, Int.reduceEq, Int.reduceLT, Int.reduceLE, Int.reduceAdd, Int.reduceSub, Int.reduceNeg, Int.reduceToNat, f0]
      · simp only [go_sem, ↓reduceIte, Nat.reduceAdd, Nat.reduceMul, Nat.reduceSub, Nat.reduceEqDiff, Nat.reduceLT, Nat.reduceLeDiff, Int.reduceEq, Int.reduceLT, Int.reduceLE, Int.reduceAdd, Int.reduceSub, Int.reduceNeg, Int.reduceToNat, f1]
      · simp only [go_sem, ↓reduceIte, Nat.reduceAdd, Nat.reduceMul, Nat.reduceSub, Nat.reduceEqDiff, Nat.reduceLT, Nat.reduceLeDiff, Int.reduceEq, Int.reduceLT, Int.reduceLE, Int.reduceAdd, Int.reduceSub, Int.reduceNeg, Int.reduceToNat, f4]
      · simp only [go_sem, ↓reduceIte, Nat.reduceAdd, Nat.reduceMul, Nat.reduceSub, Nat.reduceEqDiff, Nat.reduceLT, Nat.reduceLeDiff, Int.reduceEq, Int.reduceLT, Int.reduceLE, Int.reduceAdd, Int.reduceSub, Int.reduceNeg, Int.reduceToNat]
        rfl
      · rw [List.take_succ_eq_append_getElem hlt, List.take_succ_eq_append_getElem hky, ht, hxy]
      · simp only [eqM, f5]
        simp only [go_sem, ↓reduceIte, Nat.reduceAdd, Nat.reduceMul, Nat.reduceSub, Nat.reduceEqDiff, Nat.reduceLT, Nat.reduceLeDiff, Int.reduceEq, Int.reduceLT, Int.reduceLE, Int.reduceAdd, Int.reduceSub, Int.reduceNeg, Int.reduceToNat]
        omega
    · have h2 : decide (xs = ys) = false := decide_eq_false (fun h => hxy (by subst h; rfl))
      rw [h2]
      simp only [go_sem, ↓reduceIte, Nat.reduceAdd, Nat.reduceMul, Nat.reduceSub, Nat.reduceEqDiff, Nat.reduceLT, Nat.reduceLeDiff, Int.reduceEq, Int.reduceLT, Int.reduceLE, Int.reduceAdd, Int.reduceSub, Int.reduceNeg, Int.reduceToNat, c_ref00_EqInts_l0, f0, f1, f4, f5, hlen, e1, e3, e6, cellAt, cellsAt, aput?, get_alloc_eq, get_alloc_lt, get_set_eq, get_set_lt, Nat.add_left_cancel_iff, Nat.add_eq_left, Nat.left_eq_add, Nat.lt_add_right_iff_pos, Nat.add_lt_add_iff_left, Nat.add_eq_zero_iff, Nat.zero_lt_succ, Nat.lt_add_one, List.length_cons, List.length_nil, Nat.le_refl, and_self, g1, g2, g3, g4, Int.toNat_natCast, Nat.mul_one, hxy, e5]

theorem sl_one {h' : AHeap} {j : Nat} {y : Int} {ro : Bool} {e : Nat} (hg : h'.get j = some (.cells [.int .i64 y] ro e)) : SlI h' (.slice (some (j, 0)) 1 1 none false) [y] [j] :=
  ⟨some (j, 0), 1, none, false, rfl, by simp, by simp, nofun, .inr ⟨j, 0, _, _, _, rfl, rfl, by simp, hg, by simp, by simp⟩⟩
def ConfPost (h : AHeap) (a b : Int) (v : AV) (h' : AHeap) : Prop := ∃ s, v = .agg [.int .i64 a, .int .i64 1, s] ∧ Keep [] h h' ∧ SlI h' s [b] [h.n + 1] ∧ h.n + 1 < h'.n
theorem conf_ok (E : LdFree ov) {a b : Int} :
    FW PR G ov n_law16_conf [.int .i64 a, .int .i64 b] h (ConfPost h a b) := by
  refine call_law16_conf (E.no _ rfl) ?_
  simp only [go_sem, ↓reduceIte, Nat.reduceAdd, Nat.reduceMul, Nat.reduceSub, Nat.reduceEqDiff, Nat.reduceLT, Nat.reduceLeDiff, Int.reduceEq, Int.reduceLT, Int.reduceLE, Int.reduceAdd, Int.reduceSub, Int.reduceNeg, Int.reduceToNat, c_law16_conf, cellAt, cellsAt, aput?, get_alloc_eq, get_alloc_lt, get_set_eq, get_set_lt, Nat.add_left_cancel_iff, Nat.add_eq_left, Nat.left_eq_add, Nat.lt_add_right_iff_pos, Nat.add_lt_add_iff_left, Nat.add_eq_zero_iff, Nat.zero_lt_succ, Nat.lt_add_one, List.length_cons, List.length_nil, Nat.le_refl, and_self]
  refine ⟨_, rfl, (((Keep.refl [] h).alloc _).alloc _).set _ (.inr (by omega)), sl_one (ro := false) (e := 1) ?_, ?_⟩
  · simp only [go_sem, ↓reduceIte, Nat.reduceAdd, Nat.reduceMul, Nat.reduceSub, Nat.reduceEqDiff, Nat.reduceLT, Nat.reduceLeDiff, Int.reduceEq, Int.reduceLT, Int.reduceLE, Int.reduceAdd, Int.reduceSub, Int.reduceNeg, Int.reduceToNat, cellAt, cellsAt, aput?, get_alloc_eq, get_alloc_lt, get_set_eq, get_set_lt, Nat.add_left_cancel_iff, Nat.add_eq_left, Nat.left_eq_add, Nat.lt_add_right_iff_pos, Nat.add_lt_add_iff_left, Nat.add_eq_zero_iff, Nat.zero_lt_succ, Nat.lt_add_one, List.length_cons, List.length_nil, Nat.le_refl, and_self]
  · simp only [go_sem, ↓reduceIte, Nat.reduceAdd, Nat.reduceMul, Nat.reduceSub, Nat.reduceEqDiff, Nat.reduceLT, Nat.reduceLeDiff, Int.reduceEq, Int.reduceLT, Int.reduceLE, Int.reduceAdd, Int.reduceSub, Int.reduceNeg, Int.reduceToNat]
    omega

theorem is_ok (E : LdFree ov) {a b x y : Int} {s : AV} {xs : List Int} {ids : List Nat} (hs : SlI h s xs ids) (hl : xs.length ≤ 2 ^ 60) :
    FW PR G ov n_law16_is [.agg [.int .i64 a, .int .i64 b, s], .int .i64 x, .int .i64 y] h fun v h' => v = .bool (decide (a = x ∧ b = 1 ∧ xs = [y])) ∧ Keep [] h h' := by
  refine call_law16_is (E.no _ rfl) ?_
  by_cases h1 : a = x
  case neg =>
    simp only [go_sem, ↓reduceIte, Nat.reduceAdd, Nat.reduceMul, Nat.reduceSub, Nat.reduceEqDiff, Nat.reduceLT, Nat.reduceLeDiff, Int.reduceEq, Int.reduceLT, Int.reduceLE, Int.reduceAdd, Int.reduceSub, Int.reduceNeg, Int.reduceToNat, c_law16_is, cellAt, cellsAt, aput?, get_alloc_eq, get_alloc_lt, get_set_eq, get_set_lt, Nat.add_left_cancel_iff, Nat.add_eq_left, Nat.left_eq_add, Nat.lt_add_right_iff_pos, Nat.add_lt_add_iff_left, Nat.add_eq_zero_iff, Nat.zero_lt_succ, Nat.lt_add_one, List.length_cons, List.length_nil, Nat.le_refl, and_self, h1, false_and, decide_false]
    exact ((Keep.refl [] h).alloc _)
  by_cases h2 : b = 1
  case neg =>
    simp only [go_sem, ↓reduceIte, Nat.reduceAdd, Nat.reduceMul, Nat.reduceSub, Nat.reduceEqDiff, Nat.reduceLT, Nat.reduceLeDiff, Int.reduceEq, Int.reduceLT, Int.reduceLE, Int.reduceAdd, Int.reduceSub, Int.reduceNeg, Int.reduceToNat, c_law16_is, cellAt, cellsAt, aput?, get_alloc_eq, get_alloc_lt, get_set_eq, get_set_lt, Nat.add_left_cancel_iff, Nat.add_eq_left, Nat.left_eq_add, Nat.lt_add_right_iff_pos, Nat.add_lt_add_iff_left, Nat.add_eq_zero_iff, Nat.zero_lt_succ, Nat.lt_add_one, List.length_cons, List.length_nil, Nat.le_refl, and_self, h1, h2, false_and, and_false, decide_false]
    exact ((Keep.refl [] h).alloc _)
  have hB : SlI (((h.alloc (.cells [.int .i64 a, .int .i64 b, s] false 1))).alloc (.cells [.int .i64 y] false 1)) (.slice (some (h.n + 1, 0)) 1 1 none false) [y] [h.n + 1] := by
    refine sl_one (ro := false) (e := 1) ?_
    simp only [go_sem, ↓reduceIte, Nat.reduceAdd, Nat.reduceMul, Nat.reduceSub, Nat.reduceEqDiff, Nat.reduceLT, Nat.reduceLeDiff, Int.reduceEq, Int.reduceLT, Int.reduceLE, Int.reduceAdd, Int.reduceSub, Int.reduceNeg, Int.reduceToNat, cellAt, cellsAt, aput?, get_alloc_eq, get_alloc_lt, get_set_eq, get_set_lt, Nat.add_left_cancel_iff, Nat.add_eq_left, Nat.left_eq_add, Nat.lt_add_right_iff_pos, Nat.add_lt_add_iff_left, Nat.add_eq_zero_iff, Nat.zero_lt_succ, Nat.lt_add_one, List.length_cons, List.length_nil, Nat.le_refl, and_self]
  have hA := hs.keep (((Keep.refl [] h).alloc (.cells [.int .i64 a, .int .i64 b, s] false 1)).alloc (.cells [.int .i64 y] false 1)) (by simp)
  have hl' := hs.leaf
  subst h1 h2
  simp only [go_sem, ↓reduceIte, Nat.reduceAdd, Nat.reduceMul, Nat.reduceSub, Nat.reduceEqDiff, Nat.reduceLT, Nat.reduceLeDiff, Int.reduceEq, Int.reduceLT, Int.reduceLE, Int.reduceAdd, Int.reduceSub, Int.reduceNeg, Int.reduceToNat, c_law16_is, cellAt, cellsAt, aput?, get_alloc_eq, get_alloc_lt, get_set_eq, get_set_lt, Nat.add_left_cancel_iff, Nat.add_eq_left, Nat.left_eq_add, Nat.lt_add_right_iff_pos, Nat.add_lt_add_iff_left, Nat.add_eq_zero_iff, Nat.zero_lt_succ, Nat.lt_add_one, List.length_cons, List.length_nil, Nat.le_refl, and_self, hl', fun K => EqInts_ok (G := G) (E.no n_ref00_EqInts rfl) hA hB hl K]
  exact ((Keep.refl [] h).alloc _).alloc _

/-- what a look at the bounds tells -/
def bcfg (o : Option Vt) : Cfg := (o.map (·.c)).getD ⟨0, 0, []⟩
def CfgPost (h : AHeap) (c : Cfg) (b : Bool) (v : AV) (h' : AHeap) : Prop :=
  ∃ s ids', v = .tuple [.agg [.int .i64 c.num, .int .i64 c.full, s], .bool b] ∧ Keep [] h h' ∧ SlI h' s c.chain ids' ∧ ∀ j ∈ ids', h.n ≤ j
theorem Bound_ok (E : LdFree ov) (r : LdRep h i ids L) (hl : ∀ b ∈ L.bounds, b.c.chain.length ≤ 2 ^ 36) {num : Int} :
    FW PR G ov n_lead_Lead_Bound [.ptr (some (i, 0)), .int .i64 num] h (CfgPost h (bcfg (bget L.bounds num)) (bget L.bounds num).isSome) := by
  obtain ⟨mp, pp, h1, h2, h3', h4, h5, h6⟩ := r
  rw [ldCells] at h2
  have hl2 := AHeap.get_lt h2
  refine call_lead_Lead_Bound (E.no _ rfl) ?_
  have kA : Keep [] h (h.alloc (.cells [.int .i64 0, .int .i64 0, .slice none 0 0 none false] false 1)) := (Keep.refl [] h).alloc _
  have h2' := kA.get h2 (List.not_mem_nil)
  have hlk : ∃ b s, F_lookup (.int .i64) (.agg [.int .i64 0, .int .i64 0, .int .i64 0, .slice none 0 0 none false]) true (h.alloc (.cells [.int .i64 0, .int .i64 0, .slice none 0 0 none false] false 1)) [.map mp, .int .i64 num] =
      some (.tuple [.agg [.int .i64 b, .int .i64 (bcfg (bget L.bounds num)).num, .int .i64 (bcfg (bget L.bounds num)).full, s], .bool (bget L.bounds num).isSome], h.alloc (.cells [.int .i64 0, .int .i64 0, .slice none 0 0 none false] false 1)) ∧
      SlI h s (bcfg (bget L.bounds num)).chain ids ∧ (bcfg (bget L.bounds num)).chain.length ≤ 2 ^ 36 := by
    cases mp with
    | none =>
      have hb : L.bounds = [] := h3'
      rw [hb]
      refine ⟨0, .slice none 0 0 none false, ?_, Sl.nil _ _ _, by simp [bcfg, bget]⟩
      simp only [F_lookup, mapOf, keyFits, afind, if_true]
      rfl
    | some m =>
      obtain ⟨m1, es, m2, m3⟩ := h3'
      rcases afind_ents (x := num) m3 with ⟨w1, w2⟩ | ⟨k', b', s', w1, w2, w3, _⟩
      · rw [w1]
        refine ⟨0, .slice none 0 0 none false, ?_, Sl.nil _ _ _, by simp [bcfg]⟩
        simp only [F_lookup, mapOf, kA.get m2 (List.not_mem_nil), keyFits, w2, if_true]
        rfl
      · rw [w1]
        refine ⟨b'.bal, s', ?_, w3, hl b' (List.mem_of_find?_eq_some w1)⟩
        simp only [F_lookup, mapOf, kA.get m2 (List.not_mem_nil), keyFits, w2, if_true]
        rfl
  obtain ⟨b, s, hl1, hs, hc⟩ := hlk
  have hsl := hs.leaf
  generalize hcf : bcfg (bget L.bounds num) = cf at *
  have nl := AHeap.get_lt h2'
  simp only [go_sem, ↓reduceIte, Nat.reduceAdd, Nat.reduceMul, Nat.reduceSub, Nat.reduceEqDiff, Nat.reduceLT, Nat.reduceLeDiff, Int.reduceEq, Int.reduceLT, Int.reduceLE, Int.reduceAdd, Int.reduceSub, Int.reduceNeg, Int.reduceToNat, c_lead_Lead_Bound, cellAt, cellsAt, aput?, get_alloc_eq, get_alloc_lt, get_set_eq, get_set_lt, Nat.add_left_cancel_iff, Nat.add_eq_left, Nat.left_eq_add, Nat.lt_add_right_iff_pos, Nat.add_lt_add_iff_left, Nat.add_eq_zero_iff, Nat.zero_lt_succ, Nat.lt_add_one, List.length_cons, List.length_nil, Nat.le_refl, and_self, h2', hl1, hsl, hl2, none_at E h2', E.no]
  have hsA : SlI (((h.alloc (.cells [.int .i64 0, .int .i64 0, .slice none 0 0 none false] false 1)).alloc (.cells [.int .i64 0, .int .i64 0, .int .i64 0, .slice none 0 0 none false] false 1)).set (h.n + 1) (.cells [.int .i64 b, .int .i64 cf.num, .int .i64 cf.full, s] false 1)) s cf.chain ids :=
    hs.keep (((kA.alloc _)).set _ (.inr (by omega))) (by simp)
  refine (copied_ok E hsA hc).mono ?_
  rintro v h7 ⟨s', ids', rfl, k7, hs', hf⟩
  have kB := ((kA.alloc (.cells [.int .i64 0, .int .i64 0, .int .i64 0, .slice none 0 0 none false] false 1)).set (.cells [.int .i64 b, .int .i64 cf.num, .int .i64 cf.full, s] false 1) (i := h.n + 1) (.inr (by omega)))
  have g4 : h7.get h.n = some (.cells [.int .i64 0, .int .i64 0, .slice none 0 0 none false] false 1) := k7.get (by simp only [go_sem, ↓reduceIte, Nat.reduceAdd, Nat.reduceMul, Nat.reduceSub, Nat.reduceEqDiff, Nat.reduceLT, Nat.reduceLeDiff, Int.reduceEq, Int.reduceLT, Int.reduceLE, Int.reduceAdd, Int.reduceSub, Int.reduceNeg, Int.reduceToNat, cellAt, cellsAt, aput?, get_alloc_eq, get_alloc_lt, get_set_eq, get_set_lt, Nat.add_left_cancel_iff, Nat.add_eq_left, Nat.left_eq_add, Nat.lt_add_right_iff_pos, Nat.add_lt_add_iff_left, Nat.add_eq_zero_iff, Nat.zero_lt_succ, Nat.lt_add_one, List.length_cons, List.length_nil, Nat.le_refl, and_self]) (List.not_mem_nil)
  have l4 := AHeap.get_lt g4
  have hsl' := hs'.leaf
  simp only [go_sem, ↓reduceIte, Nat.reduceAdd, Nat.reduceMul, Nat.reduceSub, Nat.reduceEqDiff, Nat.reduceLT, Nat.reduceLeDiff, Int.reduceEq, Int.reduceLT, Int.reduceLE, Int.reduceAdd, Int.reduceSub, Int.reduceNeg, Int.reduceToNat, cellAt, cellsAt, aput?, get_alloc_eq, get_alloc_lt, get_set_eq, get_set_lt, Nat.add_left_cancel_iff, Nat.add_eq_left, Nat.left_eq_add, Nat.lt_add_right_iff_pos, Nat.add_lt_add_iff_left, Nat.add_eq_zero_iff, Nat.zero_lt_succ, Nat.lt_add_one, List.length_cons, List.length_nil, Nat.le_refl, and_self, g4, l4, hsl']
  refine ⟨s', ids', rfl, (kB.trans0 k7).set _ (.inr (Nat.le_refl _)), hs'.keep (keep_set _ _ _) ?_, fun j hj => by have := hf j hj; simp only [AHeap.n_set, AHeap.n_alloc] at this; omega⟩
  intro j hj hj2
  have := hf j hj2
  simp only [AHeap.n_set, AHeap.n_alloc] at this
  rw [List.mem_singleton.1 hj] at this
  omega
end
end Go.Sv
namespace Go.Sv
open Go Go.Proofs Go.Sx Go.RowKit
set_option maxRecDepth 100000

/-- a slice that grows by append, from nil; its object is younger than n0 -/
def Own (h : AHeap) (esz n0 : Nat) (v : AV) (n : Nat) (cs : List AV) (j : Option Nat) : Prop :=
  match j with
  | none => v = .slice none 0 0 none false ∧ n = 0 ∧ cs = []
  | some j => v = .slice (some (j, 0)) n n none true ∧ 0 < n ∧ n0 ≤ j ∧ h.get j = some (.cells cs false esz) ∧ cs.length = n * esz

theorem Own.app {h : AHeap} {esz n0 n bytes : Nat} {v x : AV} {cs xs : List AV} {j : Option Nat} (o : Own h esz n0 v n cs j) (h0 : n0 ≤ h.n) (hx : aslen x = some 1) (hs : asource h esz x 1 = some xs) (hxl : xs.length = esz)
    (hlf : xs.all AV.leaf = true) (hb : bytes ≤ 2 ^ 30) (hn : n < 2 ^ 40) (hnb : (n + 1) * bytes ≤ 2 ^ 40) :
    ∃ u h', F_app esz bytes h [v, x] = some (u, h') ∧ Own h' esz n0 u (n + 1) (cs ++ xs) (some h.n) ∧ h'.n = h.n + 1 ∧ Keep (j.toList) h h' := by
  cases j with
  | none =>
    obtain ⟨rfl, rfl, rfl⟩ := o
    refine ⟨.slice (some (h.n, 0)) 1 1 none true, h.alloc (.cells ([] ++ xs) false esz), ?_, ⟨rfl, by omega, h0, AHeap.get_alloc_self _ _, by simp [hxl]⟩, rfl, (Keep.refl _ _).alloc _⟩
    have h00 : asource h esz (.slice none 0 0 none false) 0 = some [] := rfl
    simp only [F_app, hx, hs]
    rw [if_neg (by omega), if_pos ⟨by omega, hb, by simpa using hnb⟩, h00]
  | some j =>
    obtain ⟨rfl, p, p0, hg, hl⟩ := o
    have hlt := AHeap.get_lt hg
    refine ⟨.slice (some (h.n, 0)) (n + 1) (n + 1) none true, (h.set j .dead).alloc (.cells (cs ++ xs) false esz), ?_, ⟨rfl, by omega, h0, AHeap.get_alloc_self (h.set j .dead) _, by rw [List.length_append, hl, hxl, Nat.succ_mul]⟩, rfl, ((Keep.refl _ _).set _ (.inl (by simp))).alloc _⟩
    have h00 : asource h esz (.slice (some (j, 0)) n n none true) n = some cs := by
      unfold asource
      simp only [if_neg (show ¬ n = 0 by omega)]
      rw [cellsAt_of hg _ _ (by omega)]
      rw [List.drop_zero, List.take_of_length_le (by omega)]
    simp only [F_app, hx, hs]
    rw [if_neg (by omega), if_pos ⟨by omega, hb, hnb⟩, h00]
    simp only [hg]
    rw [if_pos ⟨trivial, by omega, hlf⟩]

theorem Own.sl {h : AHeap} {esz n0 n : Nat} {v : AV} {cs : List AV} {j : Option Nat} (o : Own h esz n0 v n cs j) : Sl h esz v n cs j.toList := by
  cases j with
  | none =>
    obtain ⟨rfl, rfl, rfl⟩ := o
    exact Sl.nil _ _ _
  | some j =>
    obtain ⟨rfl, p, p0, hg, hl⟩ := o
    refine ⟨some (j, 0), n, none, true, rfl, by simp, Nat.le_refl _, nofun, .inr ⟨j, 0, _, _, _, rfl, rfl, by simp, hg, by omega, ?_⟩⟩
    rw [List.drop_zero, List.take_of_length_le (by omega)]
theorem Own.keep {h h' : AHeap} {esz n0 n : Nat} {v : AV} {cs : List AV} {j : Option Nat} {M : List Nat} (o : Own h esz n0 v n cs j) (k : Keep M h h') (hd : ∀ i ∈ M, i ∉ j.toList) : Own h' esz n0 v n cs j := by
  cases j with
  | none => exact o
  | some j =>
    obtain ⟨rfl, p, p0, hg, hl⟩ := o
    exact ⟨rfl, p, p0, k.get hg (fun hm => hd j hm (by simp)), hl⟩

theorem Own.lt {h : AHeap} {esz n0 n : Nat} {v : AV} {cs : List AV} {j : Option Nat} (o : Own h esz n0 v n cs j) : ∀ x ∈ j.toList, n0 ≤ x ∧ x < h.n := by
  cases j with
  | none => simp
  | some j =>
    obtain ⟨rfl, p, p0, hg, hl⟩ := o
    intro x hx
    have : x = j := by simpa using hx
    subst this
    exact ⟨p0, AHeap.get_lt hg⟩
theorem Own.hi {h : AHeap} {esz n0 n u : Nat} {v : AV} {cs : List AV} {j : Option Nat} (o : Own h esz n0 v n cs j) (he : 0 < esz) (hu : u ≤ n) :
    ∃ w, F_slcS esz false true h [v, .int .i64 u] = some (w, h) ∧ Sl h esz w u (cs.take (u * esz)) j.toList := by
  cases j with
  | none =>
    obtain ⟨rfl, rfl, rfl⟩ := o
    have : u = 0 := by omega
    subst this
    exact ⟨_, rfl, by simpa using Sl.nil h esz []⟩
  | some j =>
    obtain ⟨rfl, p, p0, hg, hl⟩ := o
    have hmul : u * esz ≤ n * esz := Nat.mul_le_mul_right _ hu
    refine ⟨.slice (some (j, 0)) u n none true, ?_, some (j, 0), n, none, true, rfl, by simp, hu, nofun, .inr ⟨j, 0, _, _, _, rfl, rfl, by simp, hg, by omega, by rw [List.drop_zero]⟩⟩
    simp only [F_slcS, bnd]
    rw [if_pos ⟨by omega, by omega⟩]
    simp [asub]
theorem Own.lo {h : AHeap} {esz n0 n u : Nat} {v : AV} {cs : List AV} {j : Option Nat} (o : Own h esz n0 v n cs j) (he : 0 < esz) (hu : u ≤ n) :
    ∃ w, F_slcS esz true false h [v, .int .i64 u] = some (w, h) ∧ Sl h esz w (n - u) (cs.drop (u * esz)) j.toList := by
  cases j with
  | none =>
    obtain ⟨rfl, rfl, rfl⟩ := o
    have : u = 0 := by omega
    subst this
    exact ⟨_, rfl, by simpa using Sl.nil h esz []⟩
  | some j =>
    obtain ⟨rfl, p, p0, hg, hl⟩ := o
    have hmul : u * esz ≤ n * esz := Nat.mul_le_mul_right _ hu
    simp only [F_slcS, bnd]
    rw [if_pos ⟨by omega, by omega⟩]
    simp only [Int.toNat_natCast, Option.isSome_none, Bool.false_and, Bool.false_eq_true, if_false, if_pos hu, asub, Bool.not_false, Bool.and_self, if_true]
    have hd : (n - u) * esz = cs.length - u * esz := by rw [hl, Nat.sub_mul]
    by_cases hnu : n = u
    · have h0 : ¬ u = 0 := by omega
      rw [if_pos hnu, if_neg h0]
      refine ⟨_, rfl, some (j, 0 + u * esz), n - u, some 0, true, rfl, fun _ => by omega, Nat.le_refl _, nofun, .inl ⟨by omega, ?_⟩⟩
      rw [List.drop_eq_nil_of_le (by rw [hl, hnu]; omega)]
    · rw [if_neg hnu]
      refine ⟨_, rfl, some (j, 0 + u * esz), n - u, none, true, rfl, nofun, Nat.le_refl _, nofun, .inr ⟨j, 0 + u * esz, _, _, _, rfl, rfl, by simp, hg, by omega, ?_⟩⟩
      rw [Nat.zero_add, List.take_of_length_le (by rw [List.length_drop]; omega)]
end Go.Sv
