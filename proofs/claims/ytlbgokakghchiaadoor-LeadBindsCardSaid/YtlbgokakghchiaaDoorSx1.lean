/- YtlbgokakghchiaaDoorSx1: texts of one's own, merged: SxBase, SxRel, SxRead, SxOp. -/
import Derived.Below
import Derived.Orders
import Derived.Conc.LoneCalls
import Derived.WalkKit
set_option linter.all false
namespace Go.Sx
open Go Go.RowKit


inductive AV where
  | bool (b : Bool)
  | int (k : IntKind) (n : Int)
  | str (s : ByteArray)
  | ptr (a : Option (Nat × Nat))
  | slice (a : Option (Nat × Nat)) (len cap : Nat) (z : Option Nat) (op : Bool)
  | map (r : Option Nat)
  | chan (r : Option Nat)
  | func (fn : FuncId) (first captured : List AV)
  | nilFunc
  | iface (t : TypeId) (v : AV)
  | nilIface
  | agg (cells : List AV)
  | tuple (vs : List AV)
  deriving Inhabited

structure Place where
  b : Nat
  o : Nat
  sl : Nat
  sp : Option Nat := none

abbrev Env := Nat → Place

def pAddr (ρ : Env) (i off : Nat) : Addr := ⟨(ρ i).b, (ρ i).o + off, if off = 0 then (ρ i).sp else none⟩
theorem pAddr_sp {ρ : Env} {i off : Nat} (h : (ρ i).sp = none) : pAddr ρ i off = ⟨(ρ i).b, (ρ i).o + off, none⟩ := by
  unfold pAddr; rw [h]; simp

def sAddr (ρ : Env) (z : Option Nat) (i off : Nat) : Addr :=
  match z with
  | some z0 => if (ρ i).sl = 0 then pAddr ρ i z0 else pAddr ρ i off
  | none => pAddr ρ i off

mutual
def AV.den (ρ : Env) : AV → Value
  | .bool b => .bool b
  | .int k n => .int k n
  | .str s => .string s
  | .ptr none => .pointer none
  | .ptr (some (i, o)) => .pointer (some (pAddr ρ i o))
  | .slice none len cap _ _ => .slice none len cap
  | .slice (some (i, o)) len cap z op => .slice (some (sAddr ρ z i o)) len (if op then cap + (ρ i).sl else cap)
  | .map none => .map none
  | .map (some i) => .map (some (ρ i).b)
  | .chan none => .chan none
  | .chan (some i) => .chan (some (ρ i).b)
  | .func f first captured => .func (.func f) (AV.denL ρ first).toArray (AV.denL ρ captured).toArray
  | .nilFunc => .nilFunc
  | .iface t v => .iface t (v.den ρ)
  | .nilIface => .nilIface
  | .agg cs => .agg (AV.denL ρ cs).toArray
  | .tuple vs => .tuple (AV.denL ρ vs).toArray
def AV.denL (ρ : Env) : List AV → List Value
  | [] => []
  | v :: vs => v.den ρ :: AV.denL ρ vs
end

mutual
/-- every id is one of S -/
def AV.ws (n : Nat → Prop) : AV → Prop
  | .ptr (some (i, _)) => n i
  | .slice (some (i, _)) _ _ _ _ => n i
  | .map (some i) => n i
  | .chan (some i) => n i
  | .func _ first captured => AV.wsL n first ∧ AV.wsL n captured
  | .iface _ v => v.ws n
  | .agg cs => AV.wsL n cs
  | .tuple vs => AV.wsL n vs
  | _ => True
def AV.wsL (n : Nat → Prop) : List AV → Prop
  | [] => True
  | v :: vs => v.ws n ∧ AV.wsL n vs
end

theorem denL_map (ρ : Env) : ∀ l : List AV, AV.denL ρ l = l.map (AV.den ρ)
  | [] => rfl
  | v :: vs => by simp only [AV.denL, List.map_cons, denL_map ρ vs]

abbrev below (n : Nat) : Nat → Prop := fun i => i < n

theorem wsL_iff (n : Nat → Prop) : ∀ l : List AV, AV.wsL n l ↔ ∀ v ∈ l, v.ws n
  | [] => by simp [AV.wsL]
  | v :: vs => by simp [AV.wsL, wsL_iff n vs]

mutual
def ofV : Value → Option AV
  | .bool b => some (.bool b)
  | .int k n => some (.int k n)
  | .string s => some (.str s)
  | .pointer none => some (.ptr none)
  | .slice none l c => some (.slice none l c none false)
  | .map none => some (.map none)
  | .chan none => some (.chan none)
  | .nilFunc => some .nilFunc
  | .nilIface => some .nilIface
  | .func (.func f) ⟨a⟩ ⟨b⟩ => match ofVL a, ofVL b with
    | some x, some y => some (.func f x y)
    | _, _ => none
  | .iface t v => (ofV v).map (.iface t)
  | .agg ⟨l⟩ => (ofVL l).map .agg
  | .tuple ⟨l⟩ => (ofVL l).map .tuple
  | _ => none
def ofVL : List Value → Option (List AV)
  | [] => some []
  | v :: vs => match ofV v, ofVL vs with
    | some x, some xs => some (x :: xs)
    | _, _ => none
end

mutual
theorem den_ofV (ρ : Env) : ∀ (v : Value) (x : AV), ofV v = some x → x.den ρ = v ∧ ∀ n, x.ws n
  | .bool b, x, h => by simp only [ofV, Option.some.injEq] at h; subst h; exact ⟨rfl, fun _ => trivial⟩
  | .int k n, x, h => by simp only [ofV, Option.some.injEq] at h; subst h; exact ⟨rfl, fun _ => trivial⟩
  | .string s, x, h => by simp only [ofV, Option.some.injEq] at h; subst h; exact ⟨rfl, fun _ => trivial⟩
  | .pointer none, x, h => by simp only [ofV, Option.some.injEq] at h; subst h; exact ⟨rfl, fun _ => trivial⟩
  | .pointer (some _), x, h => by simp [ofV] at h
  | .slice none l c, x, h => by simp only [ofV, Option.some.injEq] at h; subst h; exact ⟨rfl, fun _ => trivial⟩
  | .slice (some _) _ _, x, h => by simp [ofV] at h
  | .map none, x, h => by simp only [ofV, Option.some.injEq] at h; subst h; exact ⟨rfl, fun _ => trivial⟩
  | .map (some _), x, h => by simp [ofV] at h
  | .chan none, x, h => by simp only [ofV, Option.some.injEq] at h; subst h; exact ⟨rfl, fun _ => trivial⟩
  | .chan (some _), x, h => by simp [ofV] at h
  | .nilFunc, x, h => by simp only [ofV, Option.some.injEq] at h; subst h; exact ⟨rfl, fun _ => trivial⟩
  | .nilIface, x, h => by simp only [ofV, Option.some.injEq] at h; subst h; exact ⟨rfl, fun _ => trivial⟩
  | .float .., x, h => by simp [ofV] at h
  | .complex .., x, h => by simp [ofV] at h
  | .func (.func f) ⟨a⟩ ⟨b⟩, x, h => by
    simp only [ofV] at h
    cases ha : ofVL a with
    | none => simp [ha] at h
    | some xa =>
      cases hb : ofVL b with
      | none => simp [ha, hb] at h
      | some xb =>
        simp only [ha, hb, Option.some.injEq] at h
        subst h
        obtain ⟨h1, h2⟩ := denL_ofVL ρ a xa ha
        obtain ⟨h3, h4⟩ := denL_ofVL ρ b xb hb
        exact ⟨by simp only [AV.den, h1, h3], fun n => ⟨h2 n, h4 n⟩⟩
  | .func (.method _) _ _, x, h => by simp [ofV] at h
  | .func (.methodOf _ _) _ _, x, h => by simp [ofV] at h
  | .func (.via _ _ _ _) _ _, x, h => by simp [ofV] at h
  | .func (.yield _) _ _, x, h => by simp [ofV] at h
  | .iface t v, x, h => by
    simp only [ofV] at h
    cases hv : ofV v with
    | none => simp [hv] at h
    | some y =>
      simp only [hv, Option.map_some, Option.some.injEq] at h
      subst h
      obtain ⟨h1, h2⟩ := den_ofV ρ v y hv
      exact ⟨by simp only [AV.den, h1], fun n => h2 n⟩
  | .agg ⟨l⟩, x, h => by
    simp only [ofV] at h
    cases hv : ofVL l with
    | none => simp [hv] at h
    | some y =>
      simp only [hv, Option.map_some, Option.some.injEq] at h
      subst h
      obtain ⟨h1, h2⟩ := denL_ofVL ρ l y hv
      exact ⟨by simp only [AV.den, h1], fun n => h2 n⟩
  | .tuple ⟨l⟩, x, h => by
    simp only [ofV] at h
    cases hv : ofVL l with
    | none => simp [hv] at h
    | some y =>
      simp only [hv, Option.map_some, Option.some.injEq] at h
      subst h
      obtain ⟨h1, h2⟩ := denL_ofVL ρ l y hv
      exact ⟨by simp only [AV.den, h1], fun n => h2 n⟩
theorem denL_ofVL (ρ : Env) : ∀ (l : List Value) (x : List AV), ofVL l = some x → AV.denL ρ x = l ∧ ∀ n, AV.wsL n x
  | [], x, h => by simp only [ofVL, Option.some.injEq] at h; subst h; exact ⟨rfl, fun _ => trivial⟩
  | v :: vs, x, h => by
    simp only [ofVL] at h
    cases hv : ofV v with
    | none => simp [hv] at h
    | some y =>
      cases hvs : ofVL vs with
      | none => simp [hv, hvs] at h
      | some ys =>
        simp only [hv, hvs, Option.some.injEq] at h
        subst h
        obtain ⟨h1, h2⟩ := den_ofV ρ v y hv
        obtain ⟨h3, h4⟩ := denL_ofVL ρ vs ys hvs
        exact ⟨by simp only [AV.denL, h1, h3], fun n => ⟨h2 n, h4 n⟩⟩
end

/-- two environments agree on n -/
def Ext (n : Nat → Prop) (ρ ρ' : Env) : Prop := ∀ i, n i → ρ' i = ρ i

theorem Ext.refl (n : Nat → Prop) (ρ : Env) : Ext n ρ ρ := fun _ _ => rfl
theorem Ext.trans {n m : Nat} {a b c : Env} (hnm : n ≤ m) (h : Ext (below n) a b) (k : Ext (below m) b c) : Ext (below n) a c :=
  fun i hi => (k i (Nat.lt_of_lt_of_le hi hnm)).trans (h i hi)
theorem Ext.mono {n m : Nat → Prop} {a b : Env} (hnm : ∀ i, n i → m i) (h : Ext m a b) : Ext n a b := fun i hi => h i (hnm i hi)

theorem pAddr_ext {n : Nat → Prop} {ρ ρ' : Env} (h : Ext n ρ ρ') {i o : Nat} (hi : n i) : pAddr ρ' i o = pAddr ρ i o := by
  unfold pAddr; rw [h i hi]
theorem sAddr_ext {n : Nat → Prop} {ρ ρ' : Env} (h : Ext n ρ ρ') {z : Option Nat} {i o : Nat} (hi : n i) : sAddr ρ' z i o = sAddr ρ z i o := by
  unfold sAddr; cases z <;> simp only [pAddr_ext h hi, h i hi]

mutual
theorem den_ext {n : Nat → Prop} {ρ ρ' : Env} (h : Ext n ρ ρ') : ∀ v : AV, v.ws n → v.den ρ' = v.den ρ
  | .bool _, _ => rfl
  | .int _ _, _ => rfl
  | .str _, _ => rfl
  | .ptr none, _ => rfl
  | .ptr (some (i, o)), hw => by simp only [AV.den, pAddr_ext h (show n i from hw)]
  | .slice none _ _ _ _, _ => rfl
  | .slice (some (i, o)) _ _ _ _, hw => by simp only [AV.den, sAddr_ext h (show n i from hw), h i hw]
  | .map none, _ => rfl
  | .map (some i), hw => by simp only [AV.den, h i hw]
  | .chan none, _ => rfl
  | .chan (some i), hw => by simp only [AV.den, h i hw]
  | .func f a b, hw => by simp only [AV.den, denL_ext h a hw.1, denL_ext h b hw.2]
  | .nilFunc, _ => rfl
  | .iface t v, hw => by simp only [AV.den, den_ext h v hw]
  | .nilIface, _ => rfl
  | .agg l, hw => by simp only [AV.den, denL_ext h l hw]
  | .tuple l, hw => by simp only [AV.den, denL_ext h l hw]
theorem denL_ext {n : Nat → Prop} {ρ ρ' : Env} (h : Ext n ρ ρ') : ∀ l : List AV, AV.wsL n l → AV.denL ρ' l = AV.denL ρ l
  | [], _ => rfl
  | v :: vs, hw => by simp only [AV.denL, den_ext h v hw.1, denL_ext h vs hw.2]
end

mutual
theorem ws_mono {n m : Nat → Prop} (h : ∀ i, n i → m i) : ∀ v : AV, v.ws n → v.ws m
  | .bool _, _ => trivial
  | .int _ _, _ => trivial
  | .str _, _ => trivial
  | .ptr none, _ => trivial
  | .ptr (some (i, o)), hw => h i hw
  | .slice none _ _ _ _, _ => trivial
  | .slice (some (i, o)) _ _ _ _, hw => h i hw
  | .map none, _ => trivial
  | .map (some i), hw => h i hw
  | .chan none, _ => trivial
  | .chan (some i), hw => h i hw
  | .func f a b, hw => ⟨wsL_mono h a hw.1, wsL_mono h b hw.2⟩
  | .nilFunc, _ => trivial
  | .iface t v, hw => ws_mono h v hw
  | .nilIface, _ => trivial
  | .agg l, hw => wsL_mono h l hw
  | .tuple l, hw => wsL_mono h l hw
theorem wsL_mono {n m : Nat → Prop} (h : ∀ i, n i → m i) : ∀ l : List AV, AV.wsL n l → AV.wsL m l
  | [], _ => trivial
  | v :: vs, hw => ⟨ws_mono h v hw.1, wsL_mono h vs hw.2⟩
end

mutual
/-- no id at all -/
def AV.closed : AV → Bool
  | .ptr (some _) => false
  | .slice (some _) _ _ _ _ => false
  | .map (some _) => false
  | .chan (some _) => false
  | .func _ first captured => AV.closedL first && AV.closedL captured
  | .iface _ v => v.closed
  | .agg cs => AV.closedL cs
  | .tuple vs => AV.closedL vs
  | _ => true
def AV.closedL : List AV → Bool
  | [] => true
  | v :: vs => v.closed && AV.closedL vs
end

mutual
theorem den_closed (ρ ρ' : Env) : ∀ v : AV, v.closed = true → v.den ρ = v.den ρ'
  | .bool _, _ => rfl
  | .int _ _, _ => rfl
  | .str _, _ => rfl
  | .ptr none, _ => rfl
  | .ptr (some _), hw => by simp [AV.closed] at hw
  | .slice none _ _ _ _, _ => rfl
  | .slice (some _) _ _ _ _, hw => by simp [AV.closed] at hw
  | .map none, _ => rfl
  | .map (some i), hw => by simp [AV.closed] at hw
  | .chan none, _ => rfl
  | .chan (some i), hw => by simp [AV.closed] at hw
  | .func f a b, hw => by
    simp only [AV.closed, Bool.and_eq_true] at hw
    simp only [AV.den, denL_closed ρ ρ' a hw.1, denL_closed ρ ρ' b hw.2]
  | .nilFunc, _ => rfl
  | .iface t v, hw => by simp only [AV.den, den_closed ρ ρ' v hw]
  | .nilIface, _ => rfl
  | .agg l, hw => by simp only [AV.den, denL_closed ρ ρ' l hw]
  | .tuple l, hw => by simp only [AV.den, denL_closed ρ ρ' l hw]
theorem denL_closed (ρ ρ' : Env) : ∀ l : List AV, AV.closedL l = true → AV.denL ρ l = AV.denL ρ' l
  | [], _ => rfl
  | v :: vs, hw => by
    simp only [AV.closedL, Bool.and_eq_true] at hw
    simp only [AV.denL, den_closed ρ ρ' v hw.1, denL_closed ρ ρ' vs hw.2]
end

def AV.cells : AV → List AV
  | .agg cs => cs
  | v => [v]

theorem den_cells (ρ : Env) : ∀ v : AV, (v.den ρ).cells = (AV.denL ρ v.cells).toArray
  | .bool _ => rfl
  | .int _ _ => rfl
  | .str _ => rfl
  | .ptr none => rfl
  | .ptr (some (_, _)) => rfl
  | .slice none _ _ _ _ => rfl
  | .slice (some (_, _)) _ _ _ _ => rfl
  | .map none => rfl
  | .map (some _) => rfl
  | .chan none => rfl
  | .chan (some _) => rfl
  | .func _ _ _ => rfl
  | .nilFunc => rfl
  | .iface _ _ => rfl
  | .nilIface => rfl
  | .agg _ => rfl
  | .tuple _ => rfl

theorem ws_cells {n : Nat → Prop} : ∀ v : AV, v.ws n → AV.wsL n v.cells
  | .agg _, h => h
  | .bool _, _ => ⟨trivial, trivial⟩
  | .int _ _, _ => ⟨trivial, trivial⟩
  | .str _, _ => ⟨trivial, trivial⟩
  | .ptr _, h => ⟨h, trivial⟩
  | .slice _ _ _ _ _, h => ⟨h, trivial⟩
  | .map _, h => ⟨h, trivial⟩
  | .chan _, h => ⟨h, trivial⟩
  | .func _ _ _, h => ⟨h, trivial⟩
  | .nilFunc, _ => ⟨trivial, trivial⟩
  | .iface _ _, h => ⟨h, trivial⟩
  | .nilIface, _ => ⟨trivial, trivial⟩
  | .tuple _, h => ⟨h, trivial⟩

/-- fits into one cell -/
def AV.leaf : AV → Bool
  | .agg _ | .tuple _ => false
  | _ => true

theorem den_leaf (ρ : Env) : ∀ v : AV, v.leaf = true → (∀ c, v.den ρ ≠ .agg c) ∧ (∀ c, v.den ρ ≠ .tuple c)
  | .bool _, _ => ⟨nofun, nofun⟩
  | .int _ _, _ => ⟨nofun, nofun⟩
  | .str _, _ => ⟨nofun, nofun⟩
  | .ptr none, _ => ⟨nofun, nofun⟩
  | .ptr (some (_, _)), _ => ⟨nofun, nofun⟩
  | .slice none _ _ _ _, _ => ⟨nofun, nofun⟩
  | .slice (some (_, _)) _ _ _ _, _ => ⟨nofun, nofun⟩
  | .map none, _ => ⟨nofun, nofun⟩
  | .map (some _), _ => ⟨nofun, nofun⟩
  | .chan none, _ => ⟨nofun, nofun⟩
  | .chan (some _), _ => ⟨nofun, nofun⟩
  | .func _ _ _, _ => ⟨nofun, nofun⟩
  | .nilFunc, _ => ⟨nofun, nofun⟩
  | .iface _ _, _ => ⟨nofun, nofun⟩
  | .nilIface, _ => ⟨nofun, nofun⟩
  | .agg _, h => by simp [AV.leaf] at h
  | .tuple _, h => by simp [AV.leaf] at h

/-! ### the abstract heap -/
inductive AObj where
  | cells (c : List AV) (ro : Bool) (esz : Nat)
  | map (es : List (AV × AV))
  | chan (cap : Nat) (buf : List AV)
  | dead
  deriving Inhabited

/-- a map from numbers: a tree over the bits -/
inductive Tr where
  | leaf
  | node (v : Option AObj) (l r : Tr)
  deriving Inhabited

def Tr.get : Tr → Nat → Option AObj
  | .leaf, _ => none
  | .node v l r, i => if i = 0 then v else if i % 2 = 1 then l.get (i / 2) else r.get (i / 2 - 1)

def Tr.set : Nat → Tr → Nat → AObj → Tr
  | 0, t, _, _ => t
  | f + 1, t, i, x =>
    let (v, l, r) := match t with | .leaf => (none, .leaf, .leaf) | .node v l r => (v, l, r)
    if i = 0 then .node (some x) l r
    else if i % 2 = 1 then .node v (l.set f (i / 2) x) r
    else .node v l (r.set f (i / 2 - 1) x)

theorem Tr.get_set_self : ∀ (f : Nat) (t : Tr) (i : Nat) (x : AObj), i < f → (t.set f i x).get i = some x
  | 0, _, _, _, h => by omega
  | f + 1, t, i, x, h => by
    unfold Tr.set
    by_cases h0 : i = 0
    · subst h0; simp [Tr.get]
    · by_cases h1 : i % 2 = 1
      · simp only [h0, if_false, h1, if_true, Tr.get]
        exact Tr.get_set_self f _ _ _ (by omega)
      · simp only [h0, if_false, h1, Tr.get]
        exact Tr.get_set_self f _ _ _ (by omega)

theorem Tr.get_set_ne : ∀ (f : Nat) (t : Tr) (i j : Nat) (x : AObj), j ≠ i → (t.set f i x).get j = t.get j
  | 0, _, _, _, _, _ => rfl
  | f + 1, t, i, j, x, hne => by
    unfold Tr.set
    by_cases h0 : i = 0
    · subst h0
      cases t with
      | leaf => simp [Tr.get, hne]
      | node v l r => simp [Tr.get, hne]
    · by_cases h1 : i % 2 = 1
      · simp only [h0, if_false, h1, if_true]
        by_cases j0 : j = 0
        · subst j0
          cases t <;> simp [Tr.get]
        · by_cases j1 : j % 2 = 1
          · cases t with
            | leaf => simp only [Tr.get, j0, if_false, j1, if_true]; rw [Tr.get_set_ne f _ _ _ _ (by omega)]; rfl
            | node v l r => simp only [Tr.get, j0, if_false, j1, if_true]; rw [Tr.get_set_ne f _ _ _ _ (by omega)]
          · cases t with
            | leaf => simp only [Tr.get, j0, if_false, j1]
            | node v l r => simp only [Tr.get, j0, if_false, j1]
      · simp only [h0, if_false, h1]
        by_cases j0 : j = 0
        · subst j0
          cases t <;> simp [Tr.get]
        · by_cases j1 : j % 2 = 1
          · cases t with
            | leaf => simp only [Tr.get, j0, if_false, j1, if_true]
            | node v l r => simp only [Tr.get, j0, if_false, j1, if_true]
          · cases t with
            | leaf => simp only [Tr.get, j0, if_false, j1]; rw [Tr.get_set_ne f _ _ _ _ (by omega)]; rfl
            | node v l r => simp only [Tr.get, j0, if_false, j1]; rw [Tr.get_set_ne f _ _ _ _ (by omega)]

structure AHeap where
  n : Nat
  t : Tr
  deriving Inhabited

def AHeap.get (h : AHeap) (i : Nat) : Option AObj := if i < h.n then h.t.get i else none
def AHeap.set (h : AHeap) (i : Nat) (o : AObj) : AHeap := ⟨h.n, h.t.set (i + 1) i o⟩
def AHeap.alloc (h : AHeap) (o : AObj) : AHeap := ⟨h.n + 1, h.t.set (h.n + 1) h.n o⟩

theorem AHeap.n_set (h : AHeap) (i : Nat) (o : AObj) : (h.set i o).n = h.n := by rfl
theorem AHeap.n_alloc (h : AHeap) (o : AObj) : (h.alloc o).n = h.n + 1 := by rfl
theorem AHeap.get_lt {h : AHeap} {i : Nat} {o : AObj} (hi : h.get i = some o) : i < h.n := by
  unfold AHeap.get at hi
  split at hi
  · assumption
  · cases hi
theorem AHeap.get_set_self (h : AHeap) (i : Nat) (o : AObj) (hi : i < h.n) : (h.set i o).get i = some o := by
  unfold AHeap.get
  rw [if_pos (by exact hi)]
  exact Tr.get_set_self _ _ _ _ (by omega)
theorem AHeap.get_set_ne (h : AHeap) {i j : Nat} (o : AObj) (hne : j ≠ i) : (h.set i o).get j = h.get j := by
  unfold AHeap.get
  show (if j < h.n then (h.t.set (i + 1) i o).get j else none) = _
  rw [Tr.get_set_ne _ _ _ _ _ hne]
theorem AHeap.get_alloc_self (h : AHeap) (o : AObj) : (h.alloc o).get h.n = some o := by
  unfold AHeap.get
  rw [if_pos (show h.n < (h.alloc o).n from Nat.lt_succ_self _)]
  exact Tr.get_set_self _ _ _ _ (by omega)
theorem AHeap.get_alloc_ne (h : AHeap) {j : Nat} (o : AObj) (hne : j ≠ h.n) : (h.alloc o).get j = h.get j := by
  unfold AHeap.get
  show (if j < h.n + 1 then (h.t.set (h.n + 1) h.n o).get j else none) = _
  rw [Tr.get_set_ne _ _ _ _ _ hne]
  by_cases hj : j < h.n
  · rw [if_pos (by omega), if_pos hj]
  · rw [if_neg (by omega), if_neg hj]
end Go.Sx
namespace Go.Sx
open Go Go.RowKit

def AObj.live : AObj → Bool
  | .dead => false
  | _ => true
def AObj.ro : AObj → Bool
  | .cells _ ro _ => ro
  | _ => false
def AObj.ws (n : Nat → Prop) : AObj → Prop
  | .cells c _ _ => AV.wsL n c
  | .map es => ∀ p, p ∈ es → p.1.ws n ∧ p.2.ws n
  | .chan _ buf => AV.wsL n buf
  | .dead => True
/-- its block is its own, and it is written -/
def AObj.own (o : AObj) : Bool := o.live && !o.ro

theorem AObj.ws_mono {n m : Nat → Prop} (h : ∀ i, n i → m i) : ∀ o : AObj, o.ws n → o.ws m
  | .cells c _ _, hw => wsL_mono h c hw
  | .map _, hw => fun p hp => ⟨Sx.ws_mono h _ (hw p hp).1, Sx.ws_mono h _ (hw p hp).2⟩
  | .chan _ b, hw => wsL_mono h b hw
  | .dead, _ => trivial

def Fits (ρ : Env) (w : World) (i : Nat) : AObj → Prop
  | .cells c true _ => ∀ j v, c[j]? = some v → w.cell? (pAddr ρ i j) = some (v.den ρ)
  | .cells c false esz => ∃ cs E fz, w.heap[(ρ i).b]? = some (.cells cs E fz) ∧ (∀ j v, c[j]? = some v → cs[(ρ i).o + j]? = some (v.den ρ)) ∧
      (ρ i).o + c.length + (ρ i).sl * esz ≤ cs.size ∧ (∀ x, x < cs.size → ¬ (fz.1 ≤ x ∧ x < fz.2)) ∧ (ρ i).sp = none
  | .map es => ∃ ents clk, w.heap[(ρ i).b]? = some (.map ents clk) ∧ ents.toList.map (fun e => (e.key, e.val)) = es.map (fun p => (p.1.den ρ, p.2.den ρ))
  | .chan cap buf => ∃ s r, w.heap[(ρ i).b]? = some (.chan cap (buf.map (AV.den ρ)).toArray false s r false)
  | .dead => True

/-- a block that is owned -/
def Owned (ρ : Env) (h : AHeap) (b : Nat) : Prop := ∃ i o, h.get i = some o ∧ o.own = true ∧ (ρ i).b = b

structure R (N : Nat) (G : Nat → Option Nat) (ρ : Env) (h : AHeap) (w : World) : Prop where
  lt : ∀ i o, h.get i = some o → i < h.n
  ws : ∀ i o, h.get i = some o → o.ws (below h.n)
  fits : ∀ i o, h.get i = some o → Fits ρ w i o
  low : ∀ i o, h.get i = some o → o.ro = true → (ρ i).b < N
  high : ∀ i o, h.get i = some o → o.own = true → N ≤ (ρ i).b
  apart : ∀ i j o p, h.get i = some o → h.get j = some p → i ≠ j → o.own = true → p.own = true → (ρ i).b ≠ (ρ j).b
  base : N ≤ w.heap.size
  glob : ∀ g i, G g = some i → i < h.n ∧ (ρ i).b = g ∧ (ρ i).o = 0 ∧ (ρ i).sp = none

structure Stp (ρ : Env) (h : AHeap) (w : World) (ρ' : Env) (h' : AHeap) (w' : World) : Prop where
  ext : Ext (below h.n) ρ ρ'
  n : h.n ≤ h'.n
  os : w'.os = w.os
  tape : w'.tape = w.tape
  output : w'.output = w.output
  size : w.heap.size ≤ w'.heap.size
  own : ∀ b, Owned ρ' h' b → Owned ρ h b ∨ w.heap.size ≤ b
  keep : ∀ b, b < w.heap.size → ¬ Owned ρ h b → w'.heap[b]? = w.heap[b]?

theorem Stp.refl (ρ : Env) (h : AHeap) (w : World) : Stp ρ h w ρ h w :=
  ⟨Ext.refl _ _, Nat.le_refl _, rfl, rfl, rfl, Nat.le_refl _, fun _ h => .inl h, fun _ _ _ => rfl⟩

theorem Stp.trans {ρ ρ₁ ρ₂ : Env} {h h₁ h₂ : AHeap} {w w₁ w₂ : World} (a : Stp ρ h w ρ₁ h₁ w₁) (b : Stp ρ₁ h₁ w₁ ρ₂ h₂ w₂) : Stp ρ h w ρ₂ h₂ w₂ where
  ext := a.ext.trans a.n b.ext
  n := Nat.le_trans a.n b.n
  os := b.os.trans a.os
  tape := b.tape.trans a.tape
  output := b.output.trans a.output
  size := Nat.le_trans a.size b.size
  own := fun k hk => by
    rcases b.own k hk with h1 | h1
    · exact a.own k h1
    · exact .inr (Nat.le_trans a.size h1)
  keep := fun k hk hn => by
    have h1 : ¬ Owned ρ₁ h₁ k := fun hc => by
      rcases a.own k hc with h2 | h2
      · exact hn h2
      · omega
    rw [b.keep k (Nat.lt_of_lt_of_le hk a.size) h1, a.keep k hk hn]

theorem R.not_owned {N : Nat} {G : Nat → Option Nat} {ρ : Env} {h : AHeap} {w : World} (r : R N G ρ h w) {b : Nat} (hb : b < N) : ¬ Owned ρ h b :=
  fun ⟨i, o, hi, ho, he⟩ => by have := r.high i o hi ho; omega

theorem Stp.below {N : Nat} {G : Nat → Option Nat} {ρ ρ' : Env} {h h' : AHeap} {w w' : World} (r : R N G ρ h w) (s : Stp ρ h w ρ' h' w') : Below N w w' :=
  ⟨s.os, s.tape, s.output, s.size, fun k hk => s.keep k (Nat.lt_of_lt_of_le hk r.base) (r.not_owned hk)⟩

theorem cell?_some {w : World} {a : Addr} {v : Value} (h : w.cell? a = some v) : ∃ ob, w.heap[a.block]? = some ob := by
  unfold World.cell? at h
  cases hb : w.heap[a.block]? with
  | none => simp [hb] at h
  | some ob => exact ⟨ob, rfl⟩

theorem cell?_of_block {w w' : World} {a : Addr} (h : w'.heap[a.block]? = w.heap[a.block]?) : w'.cell? a = w.cell? a := by
  unfold World.cell?; rw [h]

theorem denL_get {ρ : Env} {l : List AV} {j : Nat} {v : AV} (h : l[j]? = some v) : (AV.denL ρ l)[j]? = some (v.den ρ) := by
  rw [denL_map, List.getElem?_map, h]; rfl

theorem wsL_get {n : Nat → Prop} {l : List AV} {j : Nat} {v : AV} (hw : AV.wsL n l) (h : l[j]? = some v) : v.ws n :=
  (wsL_iff n l).1 hw v (List.mem_of_getElem? h)

/-- an object whose block did not change is as it was -/
theorem Fits.keep {n : Nat → Prop} {ρ ρ' : Env} {w w' : World} {i : Nat} {o : AObj} (he : Ext n ρ ρ') (hi : n i) (hw : o.ws n)
    (hb : ∀ ob, w.heap[(ρ i).b]? = some ob → w'.heap[(ρ i).b]? = some ob) (h : Fits ρ w i o) : Fits ρ' w' i o := by
  cases o with
  | cells c ro esz =>
    cases ro with
    | true =>
      intro j v hj
      have h1 := h j v hj
      obtain ⟨ob, hob⟩ := cell?_some h1
      rw [pAddr_ext he hi, den_ext he v (wsL_get hw hj), cell?_of_block (w := w), h1]
      show w'.heap[(ρ i).b]? = w.heap[(ρ i).b]?
      rw [hb ob hob]; exact hob.symm
    | false =>
      obtain ⟨cs, E, fz, h1, h2, h3, h4, h5⟩ := h
      refine ⟨cs, E, fz, ?_, ?_, ?_, h4, by rw [he i hi]; exact h5⟩
      · rw [he i hi]; exact hb _ h1
      · intro j v hj; rw [he i hi, den_ext he v (wsL_get hw hj)]; exact h2 j v hj
      · rw [he i hi]; exact h3
  | map es =>
    obtain ⟨ents, clk, h1, h2⟩ := h
    refine ⟨ents, clk, by rw [he i hi]; exact hb _ h1, ?_⟩
    rw [h2]
    apply List.map_congr_left
    intro p hp
    rw [den_ext he _ (hw p hp).1, den_ext he _ (hw p hp).2]
  | chan cap buf =>
    obtain ⟨s, r, h1⟩ := h
    refine ⟨s, r, ?_⟩
    have e : buf.map (AV.den ρ') = buf.map (AV.den ρ) := List.map_congr_left fun v hv => den_ext he v ((wsL_iff n buf).1 hw v hv)
    rw [he i hi, e]; exact hb _ h1
  | dead => trivial

theorem R.heap_eq {N : Nat} {G : Nat → Option Nat} {ρ : Env} {h : AHeap} {w w' : World} (e : w'.heap = w.heap) (r : R N G ρ h w) : R N G ρ h w' where
  lt := r.lt
  ws := r.ws
  fits := fun i o hi => Fits.keep (Ext.refl _ _) (r.lt i o hi) (r.ws i o hi) (fun ob hob => by rw [e]; exact hob) (r.fits i o hi)
  low := r.low
  high := r.high
  apart := r.apart
  base := by rw [e]; exact r.base
  glob := r.glob

theorem Stp.heap_eq {ρ : Env} {h : AHeap} {w w' : World} (e : w'.heap = w.heap) (e1 : w'.os = w.os) (e2 : w'.tape = w.tape) (e3 : w'.output = w.output) : Stp ρ h w ρ h w' :=
  ⟨Ext.refl _ _, Nat.le_refl _, e1, e2, e3, by rw [e]; exact Nat.le_refl _, fun _ h => .inl h, fun b _ _ => by rw [e]⟩

theorem R.block_lt {N : Nat} {G : Nat → Option Nat} {ρ : Env} {h : AHeap} {w : World} (r : R N G ρ h w) {i : Nat} {o : AObj} (hi : h.get i = some o) (ho : o.own = true) : (ρ i).b < w.heap.size := by
  have hf := r.fits i o hi
  cases o with
  | cells c ro esz =>
    cases ro with
    | true => simp [AObj.own, AObj.live, AObj.ro] at ho
    | false =>
      obtain ⟨cs, E, fz, h1, _⟩ := hf
      exact (Array.getElem?_eq_some_iff.1 h1).1
  | map es => obtain ⟨ents, clk, h1, _⟩ := hf; exact (Array.getElem?_eq_some_iff.1 h1).1
  | chan cap buf => obtain ⟨s, r', h1⟩ := hf; exact (Array.getElem?_eq_some_iff.1 h1).1
  | dead => simp [AObj.own, AObj.live] at ho

def upd (ρ : Env) (i : Nat) (p : Place) : Env := fun j => if j = i then p else ρ j
theorem upd_self (ρ : Env) (i : Nat) (p : Place) : upd ρ i p i = p := if_pos rfl
theorem upd_ne (ρ : Env) {i j : Nat} (p : Place) (h : j ≠ i) : upd ρ i p j = ρ j := if_neg h
theorem Ext.upd (ρ : Env) (n : Nat) (p : Place) : Ext (below n) ρ (upd ρ n p) := fun i hi => upd_ne ρ p (Nat.ne_of_lt hi)

/-- a new block -/
theorem R.alloc {N : Nat} {G : Nat → Option Nat} {ρ : Env} {h : AHeap} {w w' : World} (r : R N G ρ h w) {o : AObj} {ob : Obj} (sl : Nat)
    (hw : w'.heap = w.heap.push ob) (e1 : w'.os = w.os) (e2 : w'.tape = w.tape) (e3 : w'.output = w.output)
    (hws : o.ws (below h.n)) (hro : o.ro = false)
    (hf : Fits (upd ρ h.n ⟨w.heap.size, 0, sl, none⟩) w' h.n o) :
    R N G (upd ρ h.n ⟨w.heap.size, 0, sl, none⟩) (h.alloc o) w' ∧ Stp ρ h w (upd ρ h.n ⟨w.heap.size, 0, sl, none⟩) (h.alloc o) w' := by
  have hext := Ext.upd ρ h.n ⟨w.heap.size, 0, sl, none⟩
  have hold : ∀ b, b < w.heap.size → w'.heap[b]? = w.heap[b]? := fun b hb => by rw [hw, Array.getElem?_push, if_neg (by omega)]
  have hget : ∀ i o', (h.alloc o).get i = some o' → (i = h.n ∧ o' = o) ∨ (i ≠ h.n ∧ h.get i = some o') := fun i o' hi => by
    by_cases e : i = h.n
    · subst e; rw [AHeap.get_alloc_self] at hi; exact .inl ⟨rfl, (Option.some.inj hi).symm⟩
    · rw [AHeap.get_alloc_ne _ _ e] at hi; exact .inr ⟨e, hi⟩
  constructor
  · refine ⟨?_, ?_, ?_, ?_, ?_, ?_, ?_, ?_⟩
    · intro i o' hi
      rcases hget i o' hi with ⟨rfl, rfl⟩ | ⟨_, hi⟩
      · exact Nat.lt_succ_self _
      · exact Nat.lt_succ_of_lt (r.lt i o' hi)
    · intro i o' hi
      rcases hget i o' hi with ⟨rfl, rfl⟩ | ⟨_, hi⟩
      · exact AObj.ws_mono (fun _ hi => Nat.lt_succ_of_lt hi) _ hws
      · exact AObj.ws_mono (fun _ hi => Nat.lt_succ_of_lt hi) _ (r.ws i o' hi)
    · intro i o' hi
      rcases hget i o' hi with ⟨rfl, rfl⟩ | ⟨_, hi⟩
      · exact hf
      · refine Fits.keep hext (r.lt i o' hi) (r.ws i o' hi) (fun ob' hob => ?_) (r.fits i o' hi)
        rw [hold _ (Array.getElem?_eq_some_iff.1 hob).1]; exact hob
    · intro i o' hi h1
      rcases hget i o' hi with ⟨rfl, rfl⟩ | ⟨he, hi⟩
      · rw [hro] at h1; cases h1
      · rw [upd_ne _ _ he]; exact r.low i o' hi h1
    · intro i o' hi h1
      rcases hget i o' hi with ⟨rfl, rfl⟩ | ⟨he, hi⟩
      · rw [upd_self]; exact r.base
      · rw [upd_ne _ _ he]; exact r.high i o' hi h1
    · intro i j o' p hi hj hne h1 h2
      rcases hget i o' hi with ⟨ei, _⟩ | ⟨he, hi'⟩
      · rcases hget j p hj with ⟨ej, _⟩ | ⟨he', hj'⟩
        · exact absurd (ei.trans ej.symm) hne
        · rw [ei, upd_self, upd_ne _ _ he']
          have := r.block_lt hj' h2
          show w.heap.size ≠ _
          omega
      · rcases hget j p hj with ⟨ej, _⟩ | ⟨he', hj'⟩
        · rw [ej, upd_self, upd_ne _ _ he]
          have := r.block_lt hi' h1
          show _ ≠ w.heap.size
          omega
        · rw [upd_ne _ _ he, upd_ne _ _ he']; exact r.apart i j o' p hi' hj' hne h1 h2
    · have := r.base; rw [hw, Array.size_push]; omega
    · intro g i hg
      obtain ⟨h1, h2, h3⟩ := r.glob g i hg
      rw [upd_ne _ _ (Nat.ne_of_lt h1)]
      exact ⟨Nat.lt_succ_of_lt h1, h2, h3⟩
  · refine ⟨hext, Nat.le_succ _, e1, e2, e3, by rw [hw, Array.size_push]; omega, ?_, fun b hb _ => hold b hb⟩
    rintro b ⟨i, o', hi, h1, h2⟩
    rcases hget i o' hi with ⟨rfl, rfl⟩ | ⟨he, hi⟩
    · rw [upd_self] at h2; exact .inr (by rw [← h2]; exact Nat.le_refl _)
    · rw [upd_ne _ _ he] at h2; exact .inl ⟨i, o', hi, h1, h2⟩

/-- one owned object is changed, in its own block -/
theorem R.set {N : Nat} {G : Nat → Option Nat} {ρ : Env} {h : AHeap} {w w' : World} (r : R N G ρ h w) {i : Nat} {o o' : AObj} (hi : h.get i = some o) (ho : o.own = true)
    (hro : o'.ro = false) (hws : o'.ws (below h.n))
    (hk : ∀ b, b ≠ (ρ i).b → w'.heap[b]? = w.heap[b]?) (hs : w'.heap.size = w.heap.size) (e1 : w'.os = w.os) (e2 : w'.tape = w.tape) (e3 : w'.output = w.output)
    (hf : Fits ρ w' i o') : R N G ρ (h.set i o') w' ∧ Stp ρ h w ρ (h.set i o') w' := by
  have hget : ∀ j q, (h.set i o').get j = some q → (j = i ∧ q = o') ∨ (j ≠ i ∧ h.get j = some q) := fun j q hj => by
    by_cases e : j = i
    · subst e; rw [AHeap.get_set_self _ _ _ (AHeap.get_lt (by assumption))] at hj; exact .inl ⟨rfl, (Option.some.inj hj).symm⟩
    · rw [AHeap.get_set_ne _ _ e] at hj; exact .inr ⟨e, hj⟩
  constructor
  · refine ⟨?_, ?_, ?_, ?_, ?_, ?_, by rw [hs]; exact r.base, r.glob⟩
    · intro j q hj
      rcases hget j q hj with ⟨rfl, rfl⟩ | ⟨_, hj⟩
      · exact r.lt _ _ hi
      · exact r.lt j q hj
    · intro j q hj
      rcases hget j q hj with ⟨rfl, rfl⟩ | ⟨_, hj⟩
      · exact hws
      · exact r.ws j q hj
    · intro j q hj
      rcases hget j q hj with ⟨rfl, rfl⟩ | ⟨he, hj⟩
      · exact hf
      · have hkeep : (ρ j).b ≠ (ρ i).b → Fits ρ w' j q := fun hb =>
          Fits.keep (Ext.refl _ _) (r.lt j q hj) (r.ws j q hj) (fun ob hob => by rw [hk _ hb]; exact hob) (r.fits j q hj)
        by_cases hq : q.own = true
        · exact hkeep (r.apart j i q o hj hi he hq ho)
        · cases q with
          | dead => trivial
          | cells c ro esz =>
            cases ro with
            | false => simp [AObj.own, AObj.live, AObj.ro] at hq
            | true =>
              have h1 := r.low j _ hj rfl
              have h2 := r.high i o hi ho
              exact hkeep (by omega)
          | map es => simp [AObj.own, AObj.live, AObj.ro] at hq
          | chan cap buf => simp [AObj.own, AObj.live, AObj.ro] at hq
    · intro j q hj h1
      rcases hget j q hj with ⟨rfl, rfl⟩ | ⟨_, hj⟩
      · rw [hro] at h1; cases h1
      · exact r.low j q hj h1
    · intro j q hj h1
      rcases hget j q hj with ⟨rfl, rfl⟩ | ⟨_, hj⟩
      · exact r.high _ o hi ho
      · exact r.high j q hj h1
    · intro j k q p hj hk' hne h1 h2
      rcases hget j q hj with ⟨ej, _⟩ | ⟨he, hj'⟩
      · rcases hget k p hk' with ⟨ek, _⟩ | ⟨he', hk2⟩
        · exact absurd (ej.trans ek.symm) hne
        · rw [ej]; exact r.apart i k o p hi hk2 (fun e => he' e.symm) ho h2
      · rcases hget k p hk' with ⟨ek, _⟩ | ⟨he', hk2⟩
        · rw [ek]; exact r.apart j i q o hj' hi he h1 ho
        · exact r.apart j k q p hj' hk2 hne h1 h2
  · refine ⟨Ext.refl _ _, Nat.le_refl _, e1, e2, e3, by rw [hs]; exact Nat.le_refl _, ?_, ?_⟩
    · rintro b ⟨j, q, hj, h1, h2⟩
      rcases hget j q hj with ⟨rfl, rfl⟩ | ⟨_, hj⟩
      · exact .inl ⟨_, o, hi, ho, h2⟩
      · exact .inl ⟨j, q, hj, h1, h2⟩
    · intro b _ hn
      exact hk b fun e => hn ⟨i, o, hi, ho, e.symm⟩
end Go.Sx
namespace Go.Sx
open Go Go.RowKit

/-! ### operations that read nothing -/
def prun {α : Type} (P : Program) : Sem α → Option α
  | .pure a => some a
  | .program k => prun P (k P)
  | .mark _ k => prun P k
  | _ => none

theorem prun_run {α : Type} {P : Program} : ∀ (s : Sem α) (a : α) (w : World), prun P s = some a → s.run P w = .ok a w
  | .pure a, b, w, h => by simp only [prun, Option.some.injEq] at h; subst h; rfl
  | .program k, b, w, h => by simp only [prun] at h; exact prun_run (k P) b w h
  | .mark _ k, b, w, h => by simp only [prun] at h; exact prun_run k b w h
  | .load .., _, _, h => by simp [prun] at h
  | .store .., _, _, h => by simp [prun] at h
  | .new .., _, _, h => by simp [prun] at h
  | .shape .., _, _, h => by simp [prun] at h
  | .freeze .., _, _, h => by simp [prun] at h
  | .frozen .., _, _, h => by simp [prun] at h
  | .getObj .., _, _, h => by simp [prun] at h
  | .setObj .., _, _, h => by simp [prun] at h
  | .choose .., _, _, h => by simp [prun] at h
  | .sys .., _, _, h => by simp [prun] at h
  | .halt _, _, _, h => by simp [prun] at h

def ρ0 : Env := fun _ => ⟨0, 0, 0, none⟩

/-- what an operand is -/
def Evs (e : Operand → Option AV) (ev : Operand → Value) (ρ : Env) (n : Nat → Prop) : Prop :=
  ∀ x v, e x = some v → ev x = v.den ρ ∧ v.ws n

def isAggD : TypeDesc → Bool
  | .struct _ | .array _ _ => true
  | _ => false

theorem run_sizeOf {P : Program} {t : TypeId} {i : TypeInfo} (hi : P.info? t = some i) (w : World) : (sizeOf t).run P w = .ok i.size w := by
  simp [sizeOf, typeInfo, hi]
theorem run_isAgg {P : Program} {t : TypeId} {d : TypeDesc} (hd : P.underlying t = some d) (w : World) : (isAgg t).run P w = .ok (isAggD d) w := by
  cases d <;> simp [isAgg, run_underlying hd, isAggD]

def cellsAt (h : AHeap) (i o n : Nat) : Option (List AV) :=
  match h.get i with
  | some (.cells c _ _) => if o + n ≤ c.length then some ((c.drop o).take n) else none
  | _ => none

def cellAt (h : AHeap) (i o : Nat) : Option AV :=
  match h.get i with
  | some (.cells c _ _) => c[o]?
  | _ => none

section
variable {N : Nat} {G : Nat → Option Nat} {ρ : Env} {h : AHeap} {w : World} {P : Program}

theorem R.cell (r : R N G ρ h w) {i : Nat} {c : List AV} {ro : Bool} {esz : Nat} (hi : h.get i = some (.cells c ro esz)) {j : Nat} {v : AV} (hj : c[j]? = some v) :
    w.cell? (pAddr ρ i j) = some (v.den ρ) := by
  have hf := r.fits i _ hi
  cases ro with
  | true => exact hf j v hj
  | false =>
    obtain ⟨cs, E, fz, h1, h2, _, _, h5⟩ := hf
    rw [pAddr_sp h5]
    simp only [World.cell?, h1]
    simpa using h2 j v hj

theorem cellAt_sound (r : R N G ρ h w) {i o : Nat} {v : AV} (hc : cellAt h i o = some v) : w.cell? (pAddr ρ i o) = some (v.den ρ) ∧ v.ws (below h.n) := by
  unfold cellAt at hc
  split at hc
  · rename_i c ro esz hi
    exact ⟨r.cell hi hc, wsL_get (r.ws i _ hi) hc⟩
  · cases hc

theorem pAddr_add (ρ : Env) (i o k : Nat) : (pAddr ρ i o).add k = pAddr ρ i (o + k) := by
  unfold Addr.add pAddr
  split
  · rename_i hk; subst hk; rfl
  · rename_i hk; simp only [Nat.add_assoc, if_neg (show ¬ (o + k = 0) by omega)]

theorem cellsAt_sound (r : R N G ρ h w) {i o n : Nat} {vs : List AV} (hc : cellsAt h i o n = some vs) :
    (loadCells (pAddr ρ i o) n).run P w = .ok (AV.denL ρ vs).toArray w ∧ AV.wsL (below h.n) vs ∧ vs.length = n := by
  unfold cellsAt at hc
  split at hc
  · rename_i c ro esz hi
    split at hc
    · rename_i hle
      simp only [Option.some.injEq] at hc
      subst hc
      have hlen : ((c.drop o).take n).length = n := by simp; omega
      refine ⟨?_, ?_, hlen⟩
      · have := run_loadCells_list (P := P) w (pAddr ρ i o) (AV.denL ρ ((c.drop o).take n)) (fun j v hj => by
          rw [denL_map, List.getElem?_map] at hj
          cases hq : ((c.drop o).take n)[j]? with
          | none => simp [hq] at hj
          | some q =>
            simp only [hq, Option.map_some, Option.some.injEq] at hj
            subst hj
            rw [pAddr_add]
            refine r.cell hi ?_
            rw [List.getElem?_take] at hq
            split at hq
            · rwa [List.getElem?_drop] at hq
            · cases hq)
        rw [denL_map, List.length_map, hlen, ← denL_map] at this
        exact this
      · rw [wsL_iff]
        intro v hv
        exact (wsL_iff _ _).1 (r.ws i _ hi) v (List.mem_of_mem_drop (List.mem_of_mem_take hv))
    · cases hc
  · cases hc

def aload (P : Program) (h : AHeap) (t : TypeId) (i o : Nat) : Option AV :=
  match P.underlying t, P.info? t with
  | some d, some inf => if isAggD d then (cellsAt h i o inf.size).map .agg else cellAt h i o
  | _, _ => none

theorem aload_sound (r : R N G ρ h w) {t : TypeId} {i o : Nat} {v : AV} (hc : aload P h t i o = some v) :
    (loadVar t (pAddr ρ i o)).run P w = .ok (v.den ρ) w ∧ v.ws (below h.n) := by
  unfold aload at hc
  split at hc
  · rename_i d inf hd hi
    split at hc
    · rename_i hagg
      cases hv : cellsAt h i o inf.size with
      | none => simp [hv] at hc
      | some vs =>
        simp only [hv, Option.map_some, Option.some.injEq] at hc
        subst hc
        obtain ⟨h1, h2, _⟩ := cellsAt_sound (P := P) r hv
        refine ⟨?_, h2⟩
        simp [loadVar, run_isAgg hd, hagg, run_sizeOf hi, h1, AV.den]
    · rename_i hagg
      obtain ⟨h1, h2⟩ := cellAt_sound r hc
      refine ⟨?_, h2⟩
      simp [loadVar, run_isAgg hd, hagg, h1]
  · cases hc

/-! ### parts of aggregates -/
def apart? (P : Program) (t : TypeId) (cs : List AV) (off : Nat) : Option AV :=
  match P.underlying t, P.info? t with
  | some d, some inf => if isAggD d then some (.agg ((cs.drop off).take inf.size)) else cs[off]?
  | _, _ => none

theorem extract_denL (ρ : Env) (cs : List AV) (off k : Nat) : ((AV.denL ρ cs).toArray.extract off (off + k)) = (AV.denL ρ ((cs.drop off).take k)).toArray := by
  apply Array.ext'
  simp [denL_map, List.map_take, List.map_drop, List.extract_eq_take_drop]

theorem wsL_sub {n : Nat → Prop} {cs : List AV} (hw : AV.wsL n cs) (off k : Nat) : AV.wsL n ((cs.drop off).take k) :=
  (wsL_iff _ _).2 fun v hv => (wsL_iff _ _).1 hw v (List.mem_of_mem_drop (List.mem_of_mem_take hv))

theorem apart?_sound {t : TypeId} {cs : List AV} {off : Nat} {v : AV} {n : Nat → Prop} (hw : AV.wsL n cs) (hc : apart? P t cs off = some v) (w : World) :
    (part t (AV.denL ρ cs).toArray off).run P w = .ok (v.den ρ) w ∧ v.ws n := by
  unfold apart? at hc
  split at hc
  · rename_i d inf hd hi
    split at hc
    · rename_i hagg
      simp only [Option.some.injEq] at hc
      subst hc
      refine ⟨?_, wsL_sub hw _ _⟩
      simp [part, run_isAgg hd, hagg, run_sizeOf hi, AV.den, denL_map, List.map_take, List.map_drop]
    · rename_i hagg
      refine ⟨?_, wsL_get hw hc⟩
      have := denL_get (ρ := ρ) hc
      simp [part, run_isAgg hd, hagg, this]
  · cases hc

/-- put the parts over the zero -/
def afill (place : Nat → Option (Nat × Nat)) (cells : List AV) : List (Nat × AV) → Option (List AV)
  | [] => some cells
  | (i, v) :: rest =>
    match place i with
    | none => none
    | some (off, size) =>
      if v.cells.length ≠ size || off + v.cells.length > cells.length then none
      else afill place (cells.take off ++ v.cells ++ cells.drop (off + v.cells.length)) rest

theorem foldl_put (off : Nat) (vs : List Value) : ∀ (cs : Array Value) (j : Nat), off + j + vs.length ≤ cs.size →
    (vs.zipIdx j).foldl (fun cs (c, j) => cs.setIfInBounds (off + j) c) cs = (cs.toList.take (off + j) ++ vs ++ cs.toList.drop (off + j + vs.length)).toArray := by
  induction vs with
  | nil => intro cs j _; simp
  | cons v vs ih =>
    intro cs j hle
    simp only [List.length_cons] at hle
    simp only [List.zipIdx_cons, List.foldl_cons]
    rw [ih _ _ (by simp; omega)]
    congr 1
    have hlt : off + j < cs.toList.length := by simp; omega
    rw [Array.toList_setIfInBounds]
    rw [show off + (j + 1) = off + j + 1 from rfl]
    rw [List.take_succ_eq_append_getElem (by simp; omega)]
    simp only [List.getElem_set_self, List.length_cons, List.append_assoc, List.singleton_append]
    rw [List.take_set_of_le (Nat.le_refl _)]
    rw [List.drop_set_of_lt (by omega)]
    rw [show off + j + 1 + vs.length = off + j + (vs.length + 1) from by omega]

theorem afill_sound (place : Nat → Option (Nat × Nat)) {n : Nat → Prop} : ∀ (parts : List (Nat × AV)) (cells : List AV) (out : List AV), afill place cells parts = some out →
    (AV.wsL n cells) → (∀ p, p ∈ parts → p.2.ws n) →
    Instr.fill place (AV.denL ρ cells).toArray (parts.map fun p => (p.1, p.2.den ρ)) = some (AV.denL ρ out).toArray ∧ AV.wsL n out
  | [], cells, out, hf, hw, _ => by
    simp only [afill, Option.some.injEq] at hf
    subst hf
    exact ⟨rfl, hw⟩
  | (i, v) :: rest, cells, out, hf, hw, hp => by
    simp only [afill] at hf
    simp only [List.map_cons, Instr.fill]
    cases hpl : place i with
    | none => simp [hpl] at hf
    | some q =>
      obtain ⟨off, size⟩ := q
      simp only [hpl] at hf
      have e1 : (v.den ρ).cells.size = v.cells.length := by rw [den_cells]; simp [denL_map]
      have e2 : (AV.denL ρ cells).toArray.size = cells.length := by simp [denL_map]
      simp only [e1, e2]
      split at hf
      · cases hf
      · rename_i hc
        rw [if_neg hc]
        simp only [Bool.or_eq_true, decide_eq_true_eq, not_or, Nat.not_lt] at hc
        have hws : AV.wsL n (cells.take off ++ v.cells ++ cells.drop (off + v.cells.length)) := by
          rw [wsL_iff]
          intro x hx
          simp only [List.mem_append] at hx
          rcases hx with (hx | hx) | hx
          · exact (wsL_iff _ _).1 hw x (List.mem_of_mem_take hx)
          · exact (wsL_iff _ _).1 (ws_cells v (hp (i, v) (List.mem_cons_self ..))) x hx
          · exact (wsL_iff _ _).1 hw x (List.mem_of_mem_drop hx)
        have ih := afill_sound place rest _ out hf hws (fun p hp' => hp p (List.mem_cons_of_mem _ hp'))
        have e3 : (v.den ρ).cells.zipIdx.foldl (fun cs (c, j) => cs.setIfInBounds (off + j) c) (AV.denL ρ cells).toArray
            = (AV.denL ρ (cells.take off ++ v.cells ++ cells.drop (off + v.cells.length))).toArray := by
          have := foldl_put off (v.den ρ).cells.toList (AV.denL ρ cells).toArray 0 (by
            simp only [Nat.add_zero, e2, Array.length_toList, e1]; omega)
          rw [← Array.foldl_toList, Array.toList_zipIdx, this]
          congr 1
          rw [den_cells]
          simp [denL_map, List.map_take, List.map_drop]
        rw [e3]
        exact ih
end
end Go.Sx
namespace Go.Sx
open Go Go.RowKit

/-- comparison of two values of which one is nil and the other not (or both are channels) -/
def anil (P : Program) (t : TypeId) (a b : AV) : Option Bool :=
  match P.underlying t, a, b with
  | some (.pointer _), .ptr none, .ptr (some _) => some false
  | some (.pointer _), .ptr (some _), .ptr none => some false
  | some (.slice _), .slice none _ _ _ _, .slice (some _) _ _ _ _ => some false
  | some (.slice _), .slice (some _) _ _ _ _, .slice none _ _ _ _ => some false
  | some (.map _ _), .map none, .map (some _) => some false
  | some (.map _ _), .map (some _), .map none => some false
  | some (.chan _ _), .chan none, .chan (some _) => some false
  | some (.chan _ _), .chan (some _), .chan none => some false
  | some (.func _ _ _), .nilFunc, .func _ _ _ => some false
  | some (.func _ _ _), .func _ _ _, .nilFunc => some false
  | some (.interface _), .nilIface, .iface _ _ => some false
  | some (.interface _), .iface _ _, .nilIface => some false
  | _, _, _ => none

def aneg (op : BinOp) (r : Bool) : Option AV :=
  match op with
  | .eql => some (.bool r)
  | .neq => some (.bool !r)
  | _ => none

def abound (v : Option AV) (y : Nat) : Option Nat :=
  match v with
  | some (.int _ i) => if 0 ≤ i ∧ i ≤ y then some i.toNat else none
  | _ => none

/-- the three bounds of a slice expression -/
def abounds (e : Operand → Option AV) (len cap : Nat) (lo hi mx : Option Operand) : Option (Nat × Nat × Nat) :=
  match (match mx with | some x => abound (e x) cap | none => some cap) with
  | none => none
  | some m =>
    match (match hi, mx with
      | some x, _ => abound (e x) m
      | none, none => some len
      | none, some _ => none) with
    | none => none
    | some hh =>
      match (match lo with | some x => abound (e x) hh | none => some 0) with
      | none => none
      | some l => if l ≤ m then some (l, hh, m) else none

/-- what a slice of a slice is: a part of the same row -/
def asub (size : Nat) (a : Option (Nat × Nat)) (cap : Nat) (z : Option Nat) (op : Bool) (l hh m : Nat) (full : Bool) : Option AV :=
  if op && !full then
    match a with
    | none => none
    | some (i, off) =>
      if m = l then some (.slice (some (i, off + l * size)) (hh - l) (m - l) (if l = 0 then z else some off) true)
      else some (.slice (some (i, off + l * size)) (hh - l) (m - l) none true)
  else if z.isSome then none
  else some (.slice (if m = l then a else a.map fun p => (p.1, p.2 + l * size)) (hh - l) (m - l) none false)

def asliceAt (P : Program) (e : Operand → Option AV) (t : TypeId) (x : AV) (lo hi mx : Option Operand) : Option AV :=
  match P.underlying t, x with
  | some (.array n el), .ptr (some (i, off)) =>
    match P.info? el, abounds e n n lo hi mx with
    | some inf, some (l, hh, m) => some (.slice (some (i, if m = l then off else off + l * inf.size)) (hh - l) (m - l) none false)
    | _, _ => none
  | some (.slice el), .slice a len cap z op =>
    match P.info? el, abounds e len cap lo hi mx with
    | some inf, some (l, hh, m) => if z.isSome && cap ≠ 0 then none else asub inf.size a cap z op l hh m mx.isSome
    | _, _ => none
  | _, _ => none

def aindexAt (P : Program) (t : TypeId) (x ix : AV) : Option AV :=
  match P.underlying t, x, ix with
  | some (.array n el), .ptr (some (i, off)), .int _ k =>
    match P.info? el with
    | some inf => if 0 ≤ k ∧ k < n then some (.ptr (some (i, off + k.toNat * inf.size))) else none
    | none => none
  | some (.slice el), .slice (some (i, off)) len _ none _, .int _ k =>
    match P.info? el with
    | some inf => if 0 ≤ k ∧ k < len then some (.ptr (some (i, off + k.toNat * inf.size))) else none
    | none => none
  | _, _, _ => none

def afieldAt (P : Program) (s : TypeId) (x : AV) (f : Nat) : Option AV :=
  match P.underlying s, x with
  | some (.struct fields), .ptr (some (i, off)) =>
    match fields[f]? with
    | some fd =>
      match P.info? fd.type with
      | some inf => if inf.size = 0 then none else some (.ptr (some (i, off + fd.offset)))
      | none => none
    | none => none
  | _, _ => none

def afield (P : Program) (s : TypeId) (x : AV) (f : Nat) : Option AV :=
  match P.underlying s, x with
  | some (.struct fields), .agg cs =>
    match fields[f]? with
    | some fd => apart? P fd.type cs fd.offset
    | none => none
  | _, _ => none

def aindex (P : Program) (t : TypeId) (x ix : AV) : Option AV :=
  match P.underlying t, x, ix with
  | some (.array n el), .agg cs, .int _ k =>
    match P.info? el with
    | some inf => if 0 ≤ k ∧ k < n then apart? P el cs (k.toNat * inf.size) else none
    | none => none
  | _, _, _ => none

def aparts (e : Operand → Option AV) : List (Nat × Operand) → Option (List (Nat × AV))
  | [] => some []
  | (i, x) :: r => match e x, aparts e r with
    | some v, some vs => some ((i, v) :: vs)
    | _, _ => none

def aops (e : Operand → Option AV) : List Operand → Option (List AV)
  | [] => some []
  | x :: r => match e x, aops e r with
    | some v, some vs => some (v :: vs)
    | _, _ => none

def azero (P : Program) (t : TypeId) : Option AV :=
  match P.info? t with
  | some inf => match inf.zero with
    | some v => ofV v
    | none => none
  | none => none

/-- sizes of a struct's fields -/
def aplaces (P : Program) : List Field → Option (List (Nat × Nat))
  | [] => some []
  | f :: fs => match P.info? f.type, aplaces P fs with
    | some inf, some r => some ((f.offset, inf.size) :: r)
    | _, _ => none

def abuild (P : Program) (t : TypeId) (parts : List (Nat × AV)) : Option AV :=
  match azero P t, P.underlying t with
  | some z, some (.struct fields) =>
    match aplaces P fields.toList with
    | some pl => (afill (fun i => pl[i]?) z.cells parts).map .agg
    | none => none
  | some z, some (.array _ el) =>
    match P.info? el with
    | some inf => (afill (fun i => some (i * inf.size, inf.size)) z.cells parts).map .agg
    | none => none
  | _, _ => none

def aassert (P : Program) (x : AV) (asserted : TypeId) (ok : Bool) : Option AV :=
  match P.underlying asserted with
  | none => none
  | some (.interface _) => none
  | some _ =>
    match x with
    | .iface t v =>
      if t = asserted then some (if ok then .tuple [v, .bool true] else v)
      else if ok then (azero P asserted).map fun z => .tuple [z, .bool false] else none
    | .nilIface => if ok then (azero P asserted).map fun z => .tuple [z, .bool false] else none
    | _ => none

def abytes : List AV → ByteArray → Option ByteArray
  | [], s => some s
  | .int .u8 n :: r, s => abytes r (s.push (UInt8.ofNat n.toNat))
  | _ :: _, _ => none

def aconv (P : Program) (h : AHeap) (src dst : TypeId) (x : AV) : Option AV :=
  match P.underlying src, P.underlying dst, x with
  | some (.slice e), some .string, .slice (some (i, off)) len _ none _ =>
    match P.underlying e with
    | some (.int .u8) => match cellsAt h i off len with
      | some cs => (abytes cs .empty).map .str
      | none => none
    | _ => none
  | _, _, _ => none

/-- equality of map keys: one whole number, one string, one bool, or all whole numbers -/
def akeyEq : AV → AV → Option Bool
  | .int k a, .int k' b => if k = k' then some (a == b) else none
  | .bool a, .bool b => some (a == b)
  | _, _ => none

def afind (k : AV) : List (AV × AV) → Option (Option (Nat × AV))
  | [] => some none
  | (k', v) :: es => match akeyEq k k' with
    | some true => some (some (0, v))
    | some false => match afind k es with
      | some (some (i, x)) => some (some (i + 1, x))
      | some none => some none
      | none => none
    | none => none

def isKeyD : TypeDesc → Bool
  | .int _ | .bool => true
  | _ => false

/-- a key of its type -/
def keyFits (kd : TypeDesc) (k : AV) : Bool :=
  match kd, k with
  | .int _, .int _ _ => true
  | .bool, .bool _ => true
  | _, _ => false

def alookup (P : Program) (h : AHeap) (t : TypeId) (m k : AV) (ok : Bool) : Option AV :=
  match P.underlying t with
  | some (.map kt el) =>
    match P.underlying kt, azero P el, (match m with | .map none => some [] | .map (some i) => (match h.get i with | some (.map es) => some es | _ => none) | _ => none) with
    | some kd, some z, some es =>
      if keyFits kd k then
        match afind k es with
        | some (some (_, v)) => some (if ok then .tuple [v, .bool true] else v)
        | some none => some (if ok then .tuple [z, .bool false] else z)
        | none => none
      else none
    | _, _, _ => none
  | _ => none

def alen (P : Program) (h : AHeap) (t : TypeId) (x : AV) : Option AV :=
  match P.underlying t, x with
  | some (.slice _), .slice _ n _ _ _ => some (.int .i64 n)
  | some (.array n _), _ => some (.int .i64 n)
  | some (.map _ _), .map none => some (.int .i64 0)
  | some (.chan _ _), .chan none => some (.int .i64 0)
  | some (.map _ _), .map (some i) => match h.get i with
    | some (.map es) => some (.int .i64 es.length)
    | _ => none
  | some (.chan _ _), .chan (some i) => match h.get i with
    | some (.chan _ buf) => some (.int .i64 buf.length)
    | _ => none
  | _, _ => none

def oclosed : Option AV → Bool
  | some v => v.closed
  | none => false
def oden : Option AV → Value
  | some v => v.den ρ0
  | none => undef
def isSelect : Op → Bool
  | .select .. => true
  | _ => false

/-- by the model itself, where no operand bears an id -/
def apure (P : Program) (e : Operand → Option AV) (o : Oper) : Option AV :=
  if (o.op.operands.toList.all fun x => oclosed (e x)) && !isSelect o.op then
    match prun P (execOp (fun x => oden (e x)) o) with
    | some (.value v) => ofV v
    | _ => none
  else none

def aread (P : Program) (e : Operand → Option AV) (h : AHeap) (o : Oper) : Option AV :=
  match o.op with
  | .move x | .assign x => e x
  | .pick c a b => match e c, e a, e b with
    | some (.bool t), some x, some y => some (if t then x else y)
    | _, _, _ => none
  | .load t a => match e a with
    | some (.ptr (some (i, off))) => aload P h t i off
    | _ => none
  | .nilCheck x => match e x with
    | some (.ptr (some p)) => some (.ptr (some p))
    | some (.func f a b) => some (.func f a b)
    | _ => none
  | .fieldAddr s x f => match e x with
    | some v => afieldAt P s v f
    | none => none
  | .indexAddr t x ix => match e x, e ix with
    | some v, some k => aindexAt P t v k
    | _, _ => none
  | .slice t x lo hi mx => match e x with
    | some v => match asliceAt P e t v lo hi mx with
      | some r => some r
      | none => apure P e o
    | none => none
  | .field s x f => match e x with
    | some v => afield P s v f
    | none => none
  | .index t x ix => match e x, e ix with
    | some v, some k => match aindex P t v k with
      | some r => some r
      | none => apure P e o
    | _, _ => none
  | .extract x k => match e x with
    | some (.tuple vs) => vs[k]?
    | _ => none
  | .build t parts => match aparts e parts.toList with
    | some ps => abuild P t ps
    | none => none
  | .makeInterface t x => match P.underlying t, e x with
    | some (.interface _), _ => none
    | some _, some v => some (.iface t v)
    | _, _ => none
  | .makeFunc (.func f) first captured => match aops e first.toList, aops e captured.toList with
    | some a, some b => some (.func f a b)
    | _, _ => none
  | .typeAssert x _ asserted ok => match e x with
    | some v => aassert P v asserted ok
    | none => none
  | .lookup t m k ok => match e m, e k with
    | some vm, some vk => alookup P h t vm vk ok
    | _, _ => none
  | .convert src dst x => match e x with
    | some v => match aconv P h src dst v with
      | some r => some r
      | none => apure P e o
    | none => none
  | .binOp op t x y _ => match e x, e y with
    | some a, some b => match anil P t a b with
      | some r => aneg op r
      | none => apure P e o
    | _, _ => none
  | .call { callee := .builtin .len, args, argTypes } => match argTypes[0]?, (args[0]?).bind e with
    | some t, some v => match alen P h t v with
      | some r => some r
      | none => apure P e o
    | _, _ => none
  | _ => apure P e o
end Go.Sx
