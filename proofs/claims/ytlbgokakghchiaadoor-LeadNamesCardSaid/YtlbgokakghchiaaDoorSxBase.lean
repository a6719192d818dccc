/- DERIVED, by an AI agent: a part of the engine 'Sx' (a machine over values and numbered objects, proved sound against the model's calls): no condition. No person has read it. -/
import Derived.Below
import Derived.Orders
import Derived.Conc.LoneCalls
set_option linter.all false
namespace Go.Sx
open Go Go.RowKit


inductive AV where
  | bool (b : Bool)
  | int (k : IntKind) (n : Int)
  | str (s : ByteArray)
  | ptr (a : Option (Nat × Nat))
  | slice (a : Option (Nat × Nat)) (len cap : Nat) (z : Option Nat) (op : Bool)
  | map (r : Option Nat)
  | chan (r : Option Nat)
  | func (fn : FuncId) (first captured : List AV)
  | nilFunc
  | iface (t : TypeId) (v : AV)
  | nilIface
  | agg (cells : List AV)
  | tuple (vs : List AV)
  deriving Inhabited

structure Place where
  b : Nat
  o : Nat
  sl : Nat

abbrev Env := Nat → Place

def pAddr (ρ : Env) (i off : Nat) : Addr := ⟨(ρ i).b, (ρ i).o + off, none⟩

def sAddr (ρ : Env) (z : Option Nat) (i off : Nat) : Addr :=
  match z with
  | some z0 => if (ρ i).sl = 0 then pAddr ρ i z0 else pAddr ρ i off
  | none => pAddr ρ i off

mutual
def AV.den (ρ : Env) : AV → Value
  | .bool b => .bool b
  | .int k n => .int k n
  | .str s => .string s
  | .ptr none => .pointer none
  | .ptr (some (i, o)) => .pointer (some (pAddr ρ i o))
  | .slice none len cap _ _ => .slice none len cap
  | .slice (some (i, o)) len cap z op => .slice (some (sAddr ρ z i o)) len (if op then cap + (ρ i).sl else cap)
  | .map none => .map none
  | .map (some i) => .map (some (ρ i).b)
  | .chan none => .chan none
  | .chan (some i) => .chan (some (ρ i).b)
  | .func f first captured => .func (.func f) (AV.denL ρ first).toArray (AV.denL ρ captured).toArray
  | .nilFunc => .nilFunc
  | .iface t v => .iface t (v.den ρ)
  | .nilIface => .nilIface
  | .agg cs => .agg (AV.denL ρ cs).toArray
  | .tuple vs => .tuple (AV.denL ρ vs).toArray
def AV.denL (ρ : Env) : List AV → List Value
  | [] => []
  | v :: vs => v.den ρ :: AV.denL ρ vs
end

mutual
/-- every id is one of S -/
def AV.ws (n : Nat → Prop) : AV → Prop
  | .ptr (some (i, _)) => n i
  | .slice (some (i, _)) _ _ _ _ => n i
  | .map (some i) => n i
  | .chan (some i) => n i
  | .func _ first captured => AV.wsL n first ∧ AV.wsL n captured
  | .iface _ v => v.ws n
  | .agg cs => AV.wsL n cs
  | .tuple vs => AV.wsL n vs
  | _ => True
def AV.wsL (n : Nat → Prop) : List AV → Prop
  | [] => True
  | v :: vs => v.ws n ∧ AV.wsL n vs
end

theorem denL_map (ρ : Env) : ∀ l : List AV, AV.denL ρ l = l.map (AV.den ρ)
  | [] => rfl
  | v :: vs => by simp only [AV.denL, List.map_cons, denL_map ρ vs]

abbrev below (n : Nat) : Nat → Prop := fun i => i < n

theorem wsL_iff (n : Nat → Prop) : ∀ l : List AV, AV.wsL n l ↔ ∀ v ∈ l, v.ws n
  | [] => by simp [AV.wsL]
  | v :: vs => by simp [AV.wsL, wsL_iff n vs]

mutual
def ofV : Value → Option AV
  | .bool b => some (.bool b)
  | .int k n => some (.int k n)
  | .string s => some (.str s)
  | .pointer none => some (.ptr none)
  | .slice none l c => some (.slice none l c none false)
  | .map none => some (.map none)
  | .chan none => some (.chan none)
  | .nilFunc => some .nilFunc
  | .nilIface => some .nilIface
  | .func (.func f) ⟨a⟩ ⟨b⟩ => match ofVL a, ofVL b with
    | some x, some y => some (.func f x y)
    | _, _ => none
  | .iface t v => (ofV v).map (.iface t)
  | .agg ⟨l⟩ => (ofVL l).map .agg
  | .tuple ⟨l⟩ => (ofVL l).map .tuple
  | _ => none
def ofVL : List Value → Option (List AV)
  | [] => some []
  | v :: vs => match ofV v, ofVL vs with
    | some x, some xs => some (x :: xs)
    | _, _ => none
end

mutual
theorem den_ofV (ρ : Env) : ∀ (v : Value) (x : AV), ofV v = some x → x.den ρ = v ∧ ∀ n, x.ws n
  | .bool b, x, h => by simp only [ofV, Option.some.injEq] at h; subst h; exact ⟨rfl, fun _ => trivial⟩
  | .int k n, x, h => by simp only [ofV, Option.some.injEq] at h; subst h; exact ⟨rfl, fun _ => trivial⟩
  | .string s, x, h => by simp only [ofV, Option.some.injEq] at h; subst h; exact ⟨rfl, fun _ => trivial⟩
  | .pointer none, x, h => by simp only [ofV, Option.some.injEq] at h; subst h; exact ⟨rfl, fun _ => trivial⟩
  | .pointer (some _), x, h => by simp [ofV] at h
  | .slice none l c, x, h => by simp only [ofV, Option.some.injEq] at h; subst h; exact ⟨rfl, fun _ => trivial⟩
  | .slice (some _) _ _, x, h => by simp [ofV] at h
  | .map none, x, h => by simp only [ofV, Option.some.injEq] at h; subst h; exact ⟨rfl, fun _ => trivial⟩
  | .map (some _), x, h => by simp [ofV] at h
  | .chan none, x, h => by simp only [ofV, Option.some.injEq] at h; subst h; exact ⟨rfl, fun _ => trivial⟩
  | .chan (some _), x, h => by simp [ofV] at h
  | .nilFunc, x, h => by simp only [ofV, Option.some.injEq] at h; subst h; exact ⟨rfl, fun _ => trivial⟩
  | .nilIface, x, h => by simp only [ofV, Option.some.injEq] at h; subst h; exact ⟨rfl, fun _ => trivial⟩
  | .float .., x, h => by simp [ofV] at h
  | .complex .., x, h => by simp [ofV] at h
  | .func (.func f) ⟨a⟩ ⟨b⟩, x, h => by
    simp only [ofV] at h
    cases ha : ofVL a with
    | none => simp [ha] at h
    | some xa =>
      cases hb : ofVL b with
      | none => simp [ha, hb] at h
      | some xb =>
        simp only [ha, hb, Option.some.injEq] at h
        subst h
        obtain ⟨h1, h2⟩ := denL_ofVL ρ a xa ha
        obtain ⟨h3, h4⟩ := denL_ofVL ρ b xb hb
        exact ⟨by simp only [AV.den, h1, h3], fun n => ⟨h2 n, h4 n⟩⟩
  | .func (.method _) _ _, x, h => by simp [ofV] at h
  | .func (.methodOf _ _) _ _, x, h => by simp [ofV] at h
  | .func (.via _ _ _ _) _ _, x, h => by simp [ofV] at h
  | .func (.yield _) _ _, x, h => by simp [ofV] at h
  | .iface t v, x, h => by
    simp only [ofV] at h
    cases hv : ofV v with
    | none => simp [hv] at h
    | some y =>
      simp only [hv, Option.map_some, Option.some.injEq] at h
      subst h
      obtain ⟨h1, h2⟩ := den_ofV ρ v y hv
      exact ⟨by simp only [AV.den, h1], fun n => h2 n⟩
  | .agg ⟨l⟩, x, h => by
    simp only [ofV] at h
    cases hv : ofVL l with
    | none => simp [hv] at h
    | some y =>
      simp only [hv, Option.map_some, Option.some.injEq] at h
      subst h
      obtain ⟨h1, h2⟩ := denL_ofVL ρ l y hv
      exact ⟨by simp only [AV.den, h1], fun n => h2 n⟩
  | .tuple ⟨l⟩, x, h => by
    simp only [ofV] at h
    cases hv : ofVL l with
    | none => simp [hv] at h
    | some y =>
      simp only [hv, Option.map_some, Option.some.injEq] at h
      subst h
      obtain ⟨h1, h2⟩ := denL_ofVL ρ l y hv
      exact ⟨by simp only [AV.den, h1], fun n => h2 n⟩
theorem denL_ofVL (ρ : Env) : ∀ (l : List Value) (x : List AV), ofVL l = some x → AV.denL ρ x = l ∧ ∀ n, AV.wsL n x
  | [], x, h => by simp only [ofVL, Option.some.injEq] at h; subst h; exact ⟨rfl, fun _ => trivial⟩
  | v :: vs, x, h => by
    simp only [ofVL] at h
    cases hv : ofV v with
    | none => simp [hv] at h
    | some y =>
      cases hvs : ofVL vs with
      | none => simp [hv, hvs] at h
      | some ys =>
        simp only [hv, hvs, Option.some.injEq] at h
        subst h
        obtain ⟨h1, h2⟩ := den_ofV ρ v y hv
        obtain ⟨h3, h4⟩ := denL_ofVL ρ vs ys hvs
        exact ⟨by simp only [AV.denL, h1, h3], fun n => ⟨h2 n, h4 n⟩⟩
end

/-- two environments agree on n -/
def Ext (n : Nat → Prop) (ρ ρ' : Env) : Prop := ∀ i, n i → ρ' i = ρ i

theorem Ext.refl (n : Nat → Prop) (ρ : Env) : Ext n ρ ρ := fun _ _ => rfl
theorem Ext.trans {n m : Nat} {a b c : Env} (hnm : n ≤ m) (h : Ext (below n) a b) (k : Ext (below m) b c) : Ext (below n) a c :=
  fun i hi => (k i (Nat.lt_of_lt_of_le hi hnm)).trans (h i hi)
theorem Ext.mono {n m : Nat → Prop} {a b : Env} (hnm : ∀ i, n i → m i) (h : Ext m a b) : Ext n a b := fun i hi => h i (hnm i hi)

theorem pAddr_ext {n : Nat → Prop} {ρ ρ' : Env} (h : Ext n ρ ρ') {i o : Nat} (hi : n i) : pAddr ρ' i o = pAddr ρ i o := by
  unfold pAddr; rw [h i hi]
theorem sAddr_ext {n : Nat → Prop} {ρ ρ' : Env} (h : Ext n ρ ρ') {z : Option Nat} {i o : Nat} (hi : n i) : sAddr ρ' z i o = sAddr ρ z i o := by
  unfold sAddr; cases z <;> simp only [pAddr_ext h hi, h i hi]

mutual
theorem den_ext {n : Nat → Prop} {ρ ρ' : Env} (h : Ext n ρ ρ') : ∀ v : AV, v.ws n → v.den ρ' = v.den ρ
  | .bool _, _ => rfl
  | .int _ _, _ => rfl
  | .str _, _ => rfl
  | .ptr none, _ => rfl
  | .ptr (some (i, o)), hw => by simp only [AV.den, pAddr_ext h (show n i from hw)]
  | .slice none _ _ _ _, _ => rfl
  | .slice (some (i, o)) _ _ _ _, hw => by simp only [AV.den, sAddr_ext h (show n i from hw), h i hw]
  | .map none, _ => rfl
  | .map (some i), hw => by simp only [AV.den, h i hw]
  | .chan none, _ => rfl
  | .chan (some i), hw => by simp only [AV.den, h i hw]
  | .func f a b, hw => by simp only [AV.den, denL_ext h a hw.1, denL_ext h b hw.2]
  | .nilFunc, _ => rfl
  | .iface t v, hw => by simp only [AV.den, den_ext h v hw]
  | .nilIface, _ => rfl
  | .agg l, hw => by simp only [AV.den, denL_ext h l hw]
  | .tuple l, hw => by simp only [AV.den, denL_ext h l hw]
theorem denL_ext {n : Nat → Prop} {ρ ρ' : Env} (h : Ext n ρ ρ') : ∀ l : List AV, AV.wsL n l → AV.denL ρ' l = AV.denL ρ l
  | [], _ => rfl
  | v :: vs, hw => by simp only [AV.denL, den_ext h v hw.1, denL_ext h vs hw.2]
end

mutual
theorem ws_mono {n m : Nat → Prop} (h : ∀ i, n i → m i) : ∀ v : AV, v.ws n → v.ws m
  | .bool _, _ => trivial
  | .int _ _, _ => trivial
  | .str _, _ => trivial
  | .ptr none, _ => trivial
  | .ptr (some (i, o)), hw => h i hw
  | .slice none _ _ _ _, _ => trivial
  | .slice (some (i, o)) _ _ _ _, hw => h i hw
  | .map none, _ => trivial
  | .map (some i), hw => h i hw
  | .chan none, _ => trivial
  | .chan (some i), hw => h i hw
  | .func f a b, hw => ⟨wsL_mono h a hw.1, wsL_mono h b hw.2⟩
  | .nilFunc, _ => trivial
  | .iface t v, hw => ws_mono h v hw
  | .nilIface, _ => trivial
  | .agg l, hw => wsL_mono h l hw
  | .tuple l, hw => wsL_mono h l hw
theorem wsL_mono {n m : Nat → Prop} (h : ∀ i, n i → m i) : ∀ l : List AV, AV.wsL n l → AV.wsL m l
  | [], _ => trivial
  | v :: vs, hw => ⟨ws_mono h v hw.1, wsL_mono h vs hw.2⟩
end

mutual
/-- no id at all -/
def AV.closed : AV → Bool
  | .ptr (some _) => false
  | .slice (some _) _ _ _ _ => false
  | .map (some _) => false
  | .chan (some _) => false
  | .func _ first captured => AV.closedL first && AV.closedL captured
  | .iface _ v => v.closed
  | .agg cs => AV.closedL cs
  | .tuple vs => AV.closedL vs
  | _ => true
def AV.closedL : List AV → Bool
  | [] => true
  | v :: vs => v.closed && AV.closedL vs
end

mutual
theorem den_closed (ρ ρ' : Env) : ∀ v : AV, v.closed = true → v.den ρ = v.den ρ'
  | .bool _, _ => rfl
  | .int _ _, _ => rfl
  | .str _, _ => rfl
  | .ptr none, _ => rfl
  | .ptr (some _), hw => by simp [AV.closed] at hw
  | .slice none _ _ _ _, _ => rfl
  | .slice (some _) _ _ _ _, hw => by simp [AV.closed] at hw
  | .map none, _ => rfl
  | .map (some i), hw => by simp [AV.closed] at hw
  | .chan none, _ => rfl
  | .chan (some i), hw => by simp [AV.closed] at hw
  | .func f a b, hw => by
    simp only [AV.closed, Bool.and_eq_true] at hw
    simp only [AV.den, denL_closed ρ ρ' a hw.1, denL_closed ρ ρ' b hw.2]
  | .nilFunc, _ => rfl
  | .iface t v, hw => by simp only [AV.den, den_closed ρ ρ' v hw]
  | .nilIface, _ => rfl
  | .agg l, hw => by simp only [AV.den, denL_closed ρ ρ' l hw]
  | .tuple l, hw => by simp only [AV.den, denL_closed ρ ρ' l hw]
theorem denL_closed (ρ ρ' : Env) : ∀ l : List AV, AV.closedL l = true → AV.denL ρ l = AV.denL ρ' l
  | [], _ => rfl
  | v :: vs, hw => by
    simp only [AV.closedL, Bool.and_eq_true] at hw
    simp only [AV.denL, den_closed ρ ρ' v hw.1, denL_closed ρ ρ' vs hw.2]
end

def AV.cells : AV → List AV
  | .agg cs => cs
  | v => [v]

theorem den_cells (ρ : Env) : ∀ v : AV, (v.den ρ).cells = (AV.denL ρ v.cells).toArray
  | .bool _ => rfl
  | .int _ _ => rfl
  | .str _ => rfl
  | .ptr none => rfl
  | .ptr (some (_, _)) => rfl
  | .slice none _ _ _ _ => rfl
  | .slice (some (_, _)) _ _ _ _ => rfl
  | .map none => rfl
  | .map (some _) => rfl
  | .chan none => rfl
  | .chan (some _) => rfl
  | .func _ _ _ => rfl
  | .nilFunc => rfl
  | .iface _ _ => rfl
  | .nilIface => rfl
  | .agg _ => rfl
  | .tuple _ => rfl

theorem ws_cells {n : Nat → Prop} : ∀ v : AV, v.ws n → AV.wsL n v.cells
  | .agg _, h => h
  | .bool _, _ => ⟨trivial, trivial⟩
  | .int _ _, _ => ⟨trivial, trivial⟩
  | .str _, _ => ⟨trivial, trivial⟩
  | .ptr _, h => ⟨h, trivial⟩
  | .slice _ _ _ _ _, h => ⟨h, trivial⟩
  | .map _, h => ⟨h, trivial⟩
  | .chan _, h => ⟨h, trivial⟩
  | .func _ _ _, h => ⟨h, trivial⟩
  | .nilFunc, _ => ⟨trivial, trivial⟩
  | .iface _ _, h => ⟨h, trivial⟩
  | .nilIface, _ => ⟨trivial, trivial⟩
  | .tuple _, h => ⟨h, trivial⟩

/-- fits into one cell -/
def AV.leaf : AV → Bool
  | .agg _ | .tuple _ => false
  | _ => true

theorem den_leaf (ρ : Env) : ∀ v : AV, v.leaf = true → (∀ c, v.den ρ ≠ .agg c) ∧ (∀ c, v.den ρ ≠ .tuple c)
  | .bool _, _ => ⟨nofun, nofun⟩
  | .int _ _, _ => ⟨nofun, nofun⟩
  | .str _, _ => ⟨nofun, nofun⟩
  | .ptr none, _ => ⟨nofun, nofun⟩
  | .ptr (some (_, _)), _ => ⟨nofun, nofun⟩
  | .slice none _ _ _ _, _ => ⟨nofun, nofun⟩
  | .slice (some (_, _)) _ _ _ _, _ => ⟨nofun, nofun⟩
  | .map none, _ => ⟨nofun, nofun⟩
  | .map (some _), _ => ⟨nofun, nofun⟩
  | .chan none, _ => ⟨nofun, nofun⟩
  | .chan (some _), _ => ⟨nofun, nofun⟩
  | .func _ _ _, _ => ⟨nofun, nofun⟩
  | .nilFunc, _ => ⟨nofun, nofun⟩
  | .iface _ _, _ => ⟨nofun, nofun⟩
  | .nilIface, _ => ⟨nofun, nofun⟩
  | .agg _, h => by simp [AV.leaf] at h
  | .tuple _, h => by simp [AV.leaf] at h

/-! ### the abstract heap -/
inductive AObj where
  | cells (c : List AV) (ro : Bool) (esz : Nat)
  | map (es : List (AV × AV))
  | chan (cap : Nat) (buf : List AV)
  | dead
  deriving Inhabited

/-- a map from numbers: a tree over the bits -/
inductive Tr where
  | leaf
  | node (v : Option AObj) (l r : Tr)
  deriving Inhabited

def Tr.get : Tr → Nat → Option AObj
  | .leaf, _ => none
  | .node v l r, i => if i = 0 then v else if i % 2 = 1 then l.get (i / 2) else r.get (i / 2 - 1)

def Tr.set : Nat → Tr → Nat → AObj → Tr
  | 0, t, _, _ => t
  | f + 1, t, i, x =>
    let (v, l, r) := match t with | .leaf => (none, .leaf, .leaf) | .node v l r => (v, l, r)
    if i = 0 then .node (some x) l r
    else if i % 2 = 1 then .node v (l.set f (i / 2) x) r
    else .node v l (r.set f (i / 2 - 1) x)

theorem Tr.get_set_self : ∀ (f : Nat) (t : Tr) (i : Nat) (x : AObj), i < f → (t.set f i x).get i = some x
  | 0, _, _, _, h => by omega
  | f + 1, t, i, x, h => by
    unfold Tr.set
    by_cases h0 : i = 0
    · subst h0; simp [Tr.get]
    · by_cases h1 : i % 2 = 1
      · simp only [h0, if_false, h1, if_true, Tr.get]
        exact Tr.get_set_self f _ _ _ (by omega)
      · simp only [h0, if_false, h1, Tr.get]
        exact Tr.get_set_self f _ _ _ (by omega)

theorem Tr.get_set_ne : ∀ (f : Nat) (t : Tr) (i j : Nat) (x : AObj), j ≠ i → (t.set f i x).get j = t.get j
  | 0, _, _, _, _, _ => rfl
  | f + 1, t, i, j, x, hne => by
    unfold Tr.set
    by_cases h0 : i = 0
    · subst h0
      cases t with
      | leaf => simp [Tr.get, hne]
      | node v l r => simp [Tr.get, hne]
    · by_cases h1 : i % 2 = 1
      · simp only [h0, if_false, h1, if_true]
        by_cases j0 : j = 0
        · subst j0
          cases t <;> simp [Tr.get]
        · by_cases j1 : j % 2 = 1
          · cases t with
            | leaf => simp only [Tr.get, j0, if_false, j1, if_true]; rw [Tr.get_set_ne f _ _ _ _ (by omega)]; rfl
            | node v l r => simp only [Tr.get, j0, if_false, j1, if_true]; rw [Tr.get_set_ne f _ _ _ _ (by omega)]
          · cases t with
            | leaf => simp only [Tr.get, j0, if_false, j1]
            | node v l r => simp only [Tr.get, j0, if_false, j1]
      · simp only [h0, if_false, h1]
        by_cases j0 : j = 0
        · subst j0
          cases t <;> simp [Tr.get]
        · by_cases j1 : j % 2 = 1
          · cases t with
            | leaf => simp only [Tr.get, j0, if_false, j1, if_true]
            | node v l r => simp only [Tr.get, j0, if_false, j1, if_true]
          · cases t with
            | leaf => simp only [Tr.get, j0, if_false, j1]; rw [Tr.get_set_ne f _ _ _ _ (by omega)]; rfl
            | node v l r => simp only [Tr.get, j0, if_false, j1]; rw [Tr.get_set_ne f _ _ _ _ (by omega)]

structure AHeap where
  n : Nat
  t : Tr
  deriving Inhabited

def AHeap.get (h : AHeap) (i : Nat) : Option AObj := h.t.get i
def AHeap.set (h : AHeap) (i : Nat) (o : AObj) : AHeap := ⟨h.n, h.t.set (i + 1) i o⟩
def AHeap.alloc (h : AHeap) (o : AObj) : AHeap := ⟨h.n + 1, h.t.set (h.n + 1) h.n o⟩

theorem AHeap.n_set (h : AHeap) (i : Nat) (o : AObj) : (h.set i o).n = h.n := rfl
theorem AHeap.n_alloc (h : AHeap) (o : AObj) : (h.alloc o).n = h.n + 1 := rfl
theorem AHeap.get_set_self (h : AHeap) (i : Nat) (o : AObj) : (h.set i o).get i = some o := Tr.get_set_self _ _ _ _ (by omega)
theorem AHeap.get_set_ne (h : AHeap) {i j : Nat} (o : AObj) (hne : j ≠ i) : (h.set i o).get j = h.get j := Tr.get_set_ne _ _ _ _ _ hne
theorem AHeap.get_alloc_self (h : AHeap) (o : AObj) : (h.alloc o).get h.n = some o := Tr.get_set_self _ _ _ _ (by omega)
theorem AHeap.get_alloc_ne (h : AHeap) {j : Nat} (o : AObj) (hne : j ≠ h.n) : (h.alloc o).get j = h.get j := Tr.get_set_ne _ _ _ _ _ hne
end Go.Sx
