/- YtlbgokakghchiaaDoorLdOv: texts of one's own, merged: LdOv. -/
import Derived.Test.YtlbgokakghchiaaDoorSx6
import Derived.Test.YtlbgokakghchiaaDoorEnRun
import Derived.Test.YtlbgokakghchiaaDoorRows
set_option linter.all false
namespace Go.Sx.Ld
open Go Go.RowKit Go.Sx Go.Proofs
set_option maxRecDepth 1000000

def tab : List Int := [0, 1, 56, 2, 57, 49, 28, 3, 61, 58, 42, 50, 38, 29, 17, 4, 62, 47, 59, 36, 45, 43, 51, 22, 53, 39, 33, 30, 24, 18, 12, 5, 63, 55, 48, 27, 60, 41, 37, 16, 46, 35, 44, 21, 52, 32, 23, 11, 54, 26, 40, 15, 34, 20, 31, 10, 25, 14, 19, 9, 13, 8, 7, 6]
/-- math/bits.deBruijn64tab -/
def objs : List (List AV) := [tab.map (.int .u8)]
def G : Nat → Option Nat := fun g => if g = 1 then some 0 else none
theorem G_eq {g i : Nat} (h : G g = some i) : g = 1 ∧ i = 0 := by
  unfold G at h
  split at h
  · rename_i hg; exact ⟨hg, (Option.some.inj h).symm⟩
  · cases h

abbrev Ov := FuncId → Option (List AV → AHeap → Option (AV × AHeap))
def ov0 : Ov := fun _ => none
theorem mixed : Tryd.prog.follows .mixedOrders = true := by kernel_rfl
theorem ok0 (N n : Nat) : CallOk Tryd.prog N G (acall Tryd.prog G ov0 n) := acall_ok mixed (fun f g h => by cases h) n

def isI (x : Option (AV × AHeap)) : Option Int :=
  match x with
  | some (.int .i64 v, _) => some v
  | _ => none
theorem isI_some {x : Option (AV × AHeap)} {v : Int} (h : isI x = some v) : ∃ h1, x = some (.int .i64 v, h1) := by
  unfold isI at h
  split at h
  · rename_i v' h1; cases h; exact ⟨h1, rfl⟩
  · cases h
noncomputable def tz (y : Int) : Option (AV × AHeap) := acall Tryd.prog G ov0 30 103 [.int .u64 y] (roH objs)
theorem tz1 : isI (tz 1) = some 0 := by kernel_rfl
theorem tz2 : isI (tz 2) = some 1 := by kernel_rfl
theorem tz3 : isI (tz 3) = some 0 := by kernel_rfl
theorem tz4 : isI (tz 4) = some 2 := by kernel_rfl
theorem tz5 : isI (tz 5) = some 0 := by kernel_rfl
theorem tz6 : isI (tz 6) = some 1 := by kernel_rfl
theorem tz7 : isI (tz 7) = some 0 := by kernel_rfl

/-- the table lies in a world -/
def Lies (w : World) : Prop := ∀ j x, tab[j]? = some x → w.cell? ⟨1, j, none⟩ = some (.int .u8 x)

theorem tab_closed : ∀ c ∈ objs, ∀ v ∈ c, v.closed = true := by
  intro c hc v hv
  simp only [objs, List.mem_singleton] at hc
  subst hc
  rw [List.mem_map] at hv
  obtain ⟨x, _, rfl⟩ := hv
  rfl

theorem Lies.R {w : World} (h : Lies w) (hw : 2 ≤ w.heap.size) : R w.heap.size G (fun _ => ⟨1, 0, 0, none⟩) (roH objs) w := by
  refine R.ofRo ?_ ?_ ?_ (Nat.le_refl _) ?_
  · intro c hc
    rw [wsL_iff]
    exact fun v hv => closed_ws v (tab_closed c hc v hv) _
  · intro i c hi j v hj
    match i, hi with
    | 0, hi =>
      simp only [objs, List.getElem?_cons_zero, Option.some.injEq] at hi
      subst hi
      rw [List.getElem?_map, Option.map_eq_some_iff] at hj
      obtain ⟨x, hx, rfl⟩ := hj
      simp only [pAddr, Nat.zero_add, ite_self]
      exact h j x hx
    | i + 1, hi => simp [objs] at hi
  · intro i _; show 1 < _; omega
  · intro g i hg
    obtain ⟨rfl, rfl⟩ := G_eq hg
    exact ⟨by decide, rfl, rfl, rfl⟩

theorem Lies.tz {w : World} (h : Lies w) (hw : 2 ≤ w.heap.size) : En.TZ w.heap.size w := by
  intro y h1 h7 W hb
  have hW : Lies W := fun j x hj => (hb.cell (p := ⟨1, j, none⟩) (by show 1 < _; omega)).trans (h j x hj)
  have hsz : 2 ≤ W.heap.size := Nat.le_trans hw hb.size
  have key : ∃ v : Int, (Lit.int .i64 v).wf = true ∧ isI (Ld.tz y) = some v := by
    have hc : y = 1 ∨ y = 2 ∨ y = 3 ∨ y = 4 ∨ y = 5 ∨ y = 6 ∨ y = 7 := by omega
    rcases hc with rfl | rfl | rfl | rfl | rfl | rfl | rfl
    · exact ⟨0, by decide, tz1⟩
    · exact ⟨1, by decide, tz2⟩
    · exact ⟨0, by decide, tz3⟩
    · exact ⟨2, by decide, tz4⟩
    · exact ⟨0, by decide, tz5⟩
    · exact ⟨1, by decide, tz6⟩
    · exact ⟨0, by decide, tz7⟩
  obtain ⟨v, hv, hr⟩ := key
  obtain ⟨h1, hr⟩ := isI_some hr
  refine ((ok0 W.heap.size 30).sound 103 _ _ _ _ hr _ W (hW.R hsz) ⟨trivial, trivial⟩).mono ?_
  rintro e w' ⟨ρ', rfl, _, s, _⟩
  exact ⟨⟨⟨v, hv⟩, rfl⟩, s.all (roH_own objs)⟩

/-- `enoughOf` -/
def ovEnough (args : List AV) (h : AHeap) : Option (AV × AHeap) :=
  match args with
  | [.int .u64 s] => if 0 ≤ s ∧ s ≤ 7 ∧ hasRo objs h = true then some (.bool (decide (2 ≤ En.pc s)), h) else none
  | _ => none

theorem enough_ok (N : Nat) : CallOk Tryd.prog N G (fun f' args h => if f' = 55 then ovEnough args h else none) := by
  have key : ∀ f' args h u h', (if f' = 55 then ovEnough args h else none) = some (u, h') → ∃ s, f' = 55 ∧ args = [.int .u64 s] ∧ u = .bool (decide (2 ≤ En.pc s)) ∧ h' = h ∧ 0 ≤ s ∧ s ≤ 7 ∧ hasRo objs h = true := by
    intro f' args h u h' hs
    split at hs
    · rename_i hf
      unfold ovEnough at hs
      split at hs
      · rename_i s
        split at hs
        · rename_i hh
          simp only [Option.some.injEq, Prod.mk.injEq] at hs
          exact ⟨s, hf, rfl, hs.1.symm, hs.2.symm, hh⟩
        · cases hs
      · cases hs
    · cases hs
  constructor
  · intro f args h u h' hs
    obtain ⟨_, _, _, _, rfl, _⟩ := key _ _ _ _ _ hs
    exact Nat.le_refl _
  · intro f' args h u h' hs ρ w r hw
    obtain ⟨s, rfl, rfl, rfl, rfl, h0, h7, hh⟩ := key _ _ _ _ _ hs
    have hget : ∃ c e, h'.get 0 = some (.cells c true e) ∧ c = tab.map (.int .u8) := by
      have := List.all_eq_true.1 hh 0 (List.mem_range.2 (by decide))
      split at this
      · rename_i c' e hg
        exact ⟨c', e, hg, AV.beqL_eq _ _ this⟩
      · cases this
    obtain ⟨c, e, hg, rfl⟩ := hget
    obtain ⟨g1, g2, g3, g4⟩ := r.glob 1 0 rfl
    have hl : Lies w := by
      intro j x hj
      have := r.fits 0 _ hg j (.int .u8 x) (by rw [List.getElem?_map, hj]; rfl)
      simpa [pAddr, g2, g3, g4, AV.den] using this
    have hN := r.low 0 _ hg rfl
    rw [g2] at hN
    have hsz : 2 ≤ w.heap.size := by have := r.base; omega
    refine (En.enough s h0 h7 w (hl.tz hsz)).mono ?_
    rintro e' w' ⟨rfl, hb⟩
    obtain ⟨k1, k2⟩ := r.kept hb
    exact ⟨ρ, rfl, k1, k2, trivial⟩

def ov1 : Ov := fun f => if f = 55 then some ovEnough else none
theorem ok1 (N n : Nat) : CallOk Tryd.prog N G (acall Tryd.prog G ov1 n) := by
  refine acall_ok mixed (fun f g h => ?_) n
  unfold ov1 at h
  split at h
  · rename_i hf
    subst hf
    simp only [Option.some.injEq] at h
    subst h
    exact enough_ok N
  · cases h

def isT : Option (AV × AHeap) → Bool
  | some (.bool b, _) => b
  | _ => false
theorem isT_some {x : Option (AV × AHeap)} (h : isT x = true) : ∃ h1, x = some (.bool true, h1) := by
  match x, h with
  | some (.bool true, h1), _ => exact ⟨h1, rfl⟩
/-- the chapter's leader -/
theorem works_run : isT (acall Tryd.prog G ov1 1000 22 [] (roH objs)) = true := by kernel_rfl
def ov2 : Ov := fun f => if f = 22 then some (ovClosed objs (.bool true)) else ov1 f
theorem ok2 (N n : Nat) : CallOk Tryd.prog N G (acall Tryd.prog G ov2 n) := by
  refine acall_ok mixed (fun f g h => ?_) n
  unfold ov2 at h
  split at h
  · rename_i hf
    subst hf
    simp only [Option.some.injEq] at h
    subst h
    obtain ⟨h1, hr⟩ := isT_some works_run
    refine CallOk.closed (ok1 N 1000) ?_ tab_closed rfl hr
    intro g i hg
    obtain ⟨rfl, rfl⟩ := G_eq hg
    decide
  · unfold ov1 at h
    split at h
    · rename_i hf
      subst hf
      simp only [Option.some.injEq] at h
      subst h
      exact enough_ok N
    · cases h
end Go.Sx.Ld
