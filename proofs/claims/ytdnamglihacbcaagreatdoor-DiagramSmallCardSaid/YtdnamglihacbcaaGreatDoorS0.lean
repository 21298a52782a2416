/- DiagramSmall returns true, whatever memory it is called in; the two package variables that it reads hold what the program's text lays. This text: the executor that the proof uses, and its soundness. -/
import Derived.Calls
import Derived.Below
import Derived.Laws.Cells
import Derived.Laws.StructEq
import Derived.Laws.Append
import Derived.Laws.Rows
import Derived.ChangeKeysEq
import Derived.Laws.Slices
-- Sp.Trie
/-! A finite map from numbers, quick for the kernel: a binary tree by the digits of the key. -/
namespace Go.Sp
noncomputable section

inductive T (α : Type) where
  | leaf
  | node (l : T α) (v : Option α) (r : T α)

/-- A way down the tree. -/
inductive Pth where
  | e
  | l (p : Pth)
  | r (p : Pth)

def pthO : Nat → Nat → Pth
  | 0, _ => .e
  | n + 1, k => match Nat.beq k 0 with
    | true => .e
    | false => match Nat.beq (k % 2) 1 with
      | true => .l (pthO n ((k - 1) / 2))
      | false => .r (pthO n ((k - 1) / 2))
def pthF (n k : Nat) : Pth :=
  Nat.rec (motive := fun _ => Nat → Pth) (fun _ => .e)
    (fun _ ih k => Bool.rec (Bool.rec (.r (ih (Nat.div (Nat.sub k (nat_lit 1)) (nat_lit 2)))) (.l (ih (Nat.div (Nat.sub k (nat_lit 1)) (nat_lit 2)))) (Nat.beq (Nat.mod k (nat_lit 2)) (nat_lit 1))) .e (Nat.beq k (nat_lit 0))) n k
def pth (k : Nat) : Pth := pthF k k

theorem pthF_eq (n k : Nat) : pthF (n + 1) k = if k = 0 then .e else if k % 2 = 1 then .l (pthF n ((k - 1) / 2)) else .r (pthF n ((k - 1) / 2)) := by
  show (Bool.rec (Bool.rec (.r (pthF n ((k - 1) / 2))) (.l (pthF n ((k - 1) / 2))) (Nat.beq (k % 2) 1)) .e (Nat.beq k 0) : Pth) = _
  by_cases h : k = 0
  · subst h; rfl
  · rw [if_neg h]
    have h1 : Nat.beq k 0 = false := by cases k <;> first | exact absurd rfl h | rfl
    rw [h1]
    by_cases h2 : k % 2 = 1
    · rw [if_pos h2, h2]; rfl
    · rw [if_neg h2]
      have h3 : Nat.beq (k % 2) 1 = false := by
        have : k % 2 = 0 := by omega
        rw [this]; rfl
      rw [h3]
theorem pthF_zero : ∀ n, pthF n 0 = .e
  | 0 => rfl
  | n + 1 => by rw [pthF_eq, if_pos rfl]
theorem pthF_more : ∀ (n m k : Nat), k ≤ n → k ≤ m → pthF n k = pthF m k
  | 0, m, k, h, _ => by
    have : k = 0 := by omega
    subst this; rw [pthF_zero, pthF_zero]
  | n + 1, 0, k, _, h => by
    have : k = 0 := by omega
    subst this; rw [pthF_zero, pthF_zero]
  | n + 1, m + 1, k, h1, h2 => by
    rw [pthF_eq, pthF_eq]
    by_cases h : k = 0
    · rw [if_pos h, if_pos h]
    · rw [if_neg h, if_neg h, pthF_more n m ((k - 1) / 2) (by omega) (by omega)]
theorem pth_eq (k : Nat) : pth k = if k = 0 then .e else if k % 2 = 1 then .l (pth ((k - 1) / 2)) else .r (pth ((k - 1) / 2)) := by
  cases k with
  | zero => rfl
  | succ k =>
    have h : pthF k ((k + 1 - 1) / 2) = pth ((k + 1 - 1) / 2) := pthF_more _ _ _ (by omega) (Nat.le_refl _)
    have h2 := pthF_eq k (k + 1)
    rw [h] at h2
    exact h2

namespace T
variable {α : Type}

/-- The root of the left and of the right part, and the value here. -/
def left : T α → T α | leaf => leaf | node l _ _ => l
def right : T α → T α | leaf => leaf | node _ _ r => r
def here : T α → Option α | leaf => none | node _ v _ => v

def getO : T α → Nat → Option α
  | leaf, _ => none
  | node l v r, k => match Nat.beq k 0 with
    | true => v
    | false => match Nat.beq (k % 2) 1 with
      | true => getO l ((k - 1) / 2)
      | false => getO r ((k - 1) / 2)

def pathO (x : Option α) : Nat → Nat → T α
  | 0, _ => leaf
  | n + 1, k => match Nat.beq k 0 with
    | true => node leaf x leaf
    | false => match Nat.beq (k % 2) 1 with
      | true => node (pathO x n ((k - 1) / 2)) none leaf
      | false => node leaf none (pathO x n ((k - 1) / 2))

def putO : T α → Nat → Option α → T α
  | leaf, k, x => pathO x (k + 1) k
  | node l v r, k, x => match Nat.beq k 0 with
    | true => node l x r
    | false => match Nat.beq (k % 2) 1 with
      | true => node (putO l ((k - 1) / 2) x) v r
      | false => node l v (putO r ((k - 1) / 2) x)

/-- The same, as the kernel likes it. -/
def get (t : T α) (k : Nat) : Option α :=
  T.rec (motive := fun _ => Pth → Option α) (fun _ => none) (fun _ v _ ihl ihr p => Pth.rec v (fun p _ => ihl p) (fun p _ => ihr p) p) t (pth k)
def pathN (x : Option α) (k : Nat) : T α := pathO x (k + 1) k
def path (x : Option α) (k : Nat) : T α := Pth.rec (node leaf x leaf) (fun _ ih => node ih none leaf) (fun _ ih => node leaf none ih) (pth k)
def put (t : T α) (k : Nat) (x : Option α) : T α :=
  T.rec (motive := fun _ => Pth → T α) (fun p => Pth.rec (node leaf x leaf) (fun _ ih => node ih none leaf) (fun _ ih => node leaf none ih) p)
    (fun l v r ihl ihr p => Pth.rec (node l x r) (fun p _ => node (ihl p) v r) (fun p _ => node l v (ihr p)) p) t (pth k)
def set (t : T α) (k : Nat) (x : α) : T α := put t k (some x)

theorem get_leaf (k : Nat) : (leaf : T α).get k = none := rfl
theorem get_node (l r : T α) (v : Option α) (k : Nat) : (node l v r).get k = if k = 0 then v else if k % 2 = 1 then l.get ((k - 1) / 2) else r.get ((k - 1) / 2) := by
  unfold get
  rw [pth_eq k]
  by_cases h : k = 0
  · rw [if_pos h, if_pos h]
  · rw [if_neg h, if_neg h]
    by_cases h2 : k % 2 = 1
    · rw [if_pos h2, if_pos h2]
    · rw [if_neg h2, if_neg h2]

theorem path_eq (x : Option α) (k : Nat) : path x k = if k = 0 then node leaf x leaf else if k % 2 = 1 then node (path x ((k - 1) / 2)) none leaf else node leaf none (path x ((k - 1) / 2)) := by
  unfold path
  rw [pth_eq k]
  by_cases h : k = 0
  · rw [if_pos h, if_pos h]
  · rw [if_neg h, if_neg h]
    by_cases h2 : k % 2 = 1
    · rw [if_pos h2, if_pos h2]
    · rw [if_neg h2, if_neg h2]

theorem put_leaf (k : Nat) (x : Option α) : (leaf : T α).put k x = path x k := rfl
theorem put_node (l r : T α) (v : Option α) (k : Nat) (x : Option α) : (node l v r).put k x = if k = 0 then node l x r else if k % 2 = 1 then node (l.put ((k - 1) / 2) x) v r else node l v (r.put ((k - 1) / 2) x) := by
  unfold put
  rw [pth_eq k]
  by_cases h : k = 0
  · rw [if_pos h, if_pos h]
  · rw [if_neg h, if_neg h]
    by_cases h2 : k % 2 = 1
    · rw [if_pos h2, if_pos h2]
    · rw [if_neg h2, if_neg h2]

theorem get_path (x : Option α) : ∀ (n k j : Nat), k < n → (path x k).get j = if j = k then x else none
  | 0, k, j, h => by omega
  | n + 1, k, j, h => by
    rw [path_eq]
    by_cases hk : k = 0
    · subst hk
      rw [if_pos rfl, get_node, get_leaf]
      by_cases hj : j = 0
      · rw [if_pos hj, if_pos hj]
      · rw [if_neg hj, if_neg hj]; split <;> rfl
    · rw [if_neg hk]
      have ih := get_path x n ((k - 1) / 2) ((j - 1) / 2) (by omega)
      by_cases hp : k % 2 = 1
      · rw [if_pos hp, get_node, get_leaf, ih]
        by_cases hj : j = 0
        · rw [if_pos hj, if_neg (by omega)]
        · rw [if_neg hj]
          by_cases hjp : j % 2 = 1
          · rw [if_pos hjp]
            by_cases e : j = k
            · subst e; rw [if_pos rfl, if_pos rfl]
            · rw [if_neg e, if_neg (by omega)]
          · rw [if_neg hjp, if_neg (by omega)]
      · rw [if_neg hp, get_node, get_leaf, ih]
        by_cases hj : j = 0
        · rw [if_pos hj, if_neg (by omega)]
        · rw [if_neg hj]
          by_cases hjp : j % 2 = 1
          · rw [if_pos hjp, if_neg (by omega)]
          · rw [if_neg hjp]
            by_cases e : j = k
            · subst e; rw [if_pos rfl, if_pos rfl]
            · rw [if_neg e, if_neg (by omega)]

theorem get_put (t : T α) (k j : Nat) (x : Option α) : (t.put k x).get j = if j = k then x else t.get j := by
  induction t generalizing k j with
  | leaf => rw [put_leaf, get_path x (k + 1) k j (by omega), get_leaf]
  | node l v r ihl ihr =>
    rw [put_node]
    by_cases hk : k = 0
    · subst hk
      rw [if_pos rfl, get_node, get_node]
      by_cases hj : j = 0
      · rw [if_pos hj, if_pos hj]
      · rw [if_neg hj, if_neg hj]
        simp only [if_neg hj]
    · rw [if_neg hk]
      by_cases hp : k % 2 = 1
      · rw [if_pos hp, get_node, get_node, ihl]
        by_cases hj : j = 0
        · rw [if_pos hj, if_neg (by omega), if_pos hj]
        · rw [if_neg hj, if_neg hj]
          by_cases hjp : j % 2 = 1
          · rw [if_pos hjp, if_pos hjp]
            by_cases e : j = k
            · subst e; rw [if_pos rfl, if_pos rfl]
            · rw [if_neg e, if_neg (by omega)]
          · rw [if_neg hjp, if_neg hjp, if_neg (by omega)]
      · rw [if_neg hp, get_node, get_node, ihr]
        by_cases hj : j = 0
        · rw [if_pos hj, if_neg (by omega), if_pos hj]
        · rw [if_neg hj, if_neg hj]
          by_cases hjp : j % 2 = 1
          · rw [if_pos hjp, if_pos hjp, if_neg (by omega)]
          · rw [if_neg hjp, if_neg hjp]
            by_cases e : j = k
            · subst e; rw [if_pos rfl, if_pos rfl]
            · rw [if_neg e, if_neg (by omega)]

theorem get_set (t : T α) (k j : Nat) (x : α) : (t.set k x).get j = if j = k then some x else t.get j := get_put t k j (some x)
theorem get_set_same (t : T α) (k : Nat) (x : α) : (t.set k x).get k = some x := by rw [get_set, if_pos rfl]
theorem get_set_other (t : T α) (k j : Nat) (x : α) (h : j ≠ k) : (t.set k x).get j = t.get j := by rw [get_set, if_neg h]

/-- A list, laid from a number on. -/
def ofList : List α → Nat → T α → T α
  | [], _, t => t
  | x :: l, k, t => ofList l (k + 1) (t.set k x)

theorem get_ofList (l : List α) : ∀ (k : Nat) (t : T α) (j : Nat), (ofList l k t).get j = if k ≤ j ∧ j < k + l.length then l[j - k]? else t.get j := by
  induction l with
  | nil => intro k t j; simp [ofList]; intro h1 h2; omega
  | cons x l ih =>
    intro k t j
    simp only [ofList, ih, List.length_cons]
    by_cases h : j = k
    · subst h
      rw [if_neg (by omega), if_pos (by omega), get_set_same]; simp
    · by_cases h2 : k + 1 ≤ j ∧ j < k + 1 + l.length
      · rw [if_pos h2, if_pos (by omega)]
        obtain ⟨d, rfl⟩ : ∃ d, j = k + 1 + d := ⟨j - (k + 1), by omega⟩
        rw [show k + 1 + d - (k + 1) = d by omega, show k + 1 + d - k = d + 1 by omega]; simp
      · rw [if_neg h2, if_neg (by omega), get_set_other _ _ _ _ h]
end T
end
end Go.Sp

-- Sp.Abs
/-! The abstract executor: the model's own code over a heap of its own, without a tape: what an order, a capacity or other memory could turn is refused. -/
namespace Go.Sp
noncomputable section

/-- A loop over a function, at work. -/
structure ALoop where
  state : LoopState
  pending : Option Code
  fn : FuncId
  env : T Value
  nt : Nat
  params : List Tmp
  assign : Code
  body : Code

inductive AObj where
  | cells (own : Bool) (gsz : Nat) (c : List Value)
  | map (own : Bool) (es : List MapEntry) (clock : Nat)
  | loop (l : ALoop)

structure Heap where
  t : T AObj
  next : Nat

namespace Heap
def get (H : Heap) (b : Nat) : Option AObj := H.t.get b
def upd (H : Heap) (b : Nat) (o : AObj) : Heap := ⟨H.t.set b o, H.next⟩
def kill (H : Heap) (b : Nat) : Heap := ⟨H.t.put b none, H.next⟩
def push (H : Heap) (o : AObj) : Heap := ⟨H.t.set H.next o, H.next + 1⟩
end Heap

/-- What is known of a type: its shape, how many cells it has, its bytes, its zero, whether it is a struct or an array, and whether == needs no more than its parts. -/
structure TV where
  desc : TypeDesc
  size : Nat
  bytes : Nat
  zero : Value
  agg : Bool
  plainEq : Bool

structure FV where
  nt : Nat
  results : List ResultVar
  body : Code

/-- The steps of a region that draws its order: the order in which it is done here, and of each operation the stages at which it must read the same; 'true': it is one of those that are done in a row. -/
structure Step where
  op : Nat
  again : List Nat
  loud : Bool

/-- The program, as it is looked at: types, functions, the plans of regions (function, region), and what is known otherwise of functions. -/
structure View where
  ty : T TV
  fn : T FV
  plan : T (T (List Step))
  ext : FuncId → Option (List Value → Heap → Option (Value × Heap))

/-- A value of one cell. -/
def oneCell : Value → Bool
  | .agg _ | .tuple _ => false
  | _ => true

namespace Heap
def cell (H : Heap) (a : Addr) : Option Value :=
  match a.spot with
  | some _ => none
  | none =>
    match H.get a.block with
    | some (.cells _ _ c) => c[a.off]?
    | _ => none

/-- n cells from an address on. -/
def cellsN (H : Heap) (a : Addr) (n : Nat) : Option (List Value) :=
  match a.spot with
  | some _ => none
  | none =>
    match H.get a.block with
    | some (.cells _ _ c) => match Nat.ble (a.off + n) c.length with
      | true => some ((c.drop a.off).take n)
      | false => none
    | _ => none

/-- The list with some put from a place on. -/
def putFrom (c : List Value) (off : Nat) (vs : List Value) : List Value := c.take off ++ vs ++ c.drop (off + vs.length)

def storeN (H : Heap) (a : Addr) (vs : List Value) : Option Heap :=
  match a.spot with
  | some _ => none
  | none =>
    match H.get a.block with
    | some (.cells true g c) => match Nat.ble (a.off + vs.length) c.length && vs.all oneCell with
      | true => some (H.upd a.block (.cells true g (putFrom c a.off vs)))
      | false => none
    | _ => none
end Heap

namespace View
variable (V : View)

def loadVar (H : Heap) (t : TypeId) (a : Addr) : Option Value :=
  match V.ty.get t with
  | none => none
  | some tv => match tv.agg with
    | true => match H.cellsN a tv.size with
      | some l => some (.agg ⟨l⟩)
      | none => none
    | false => H.cell a

def storeVar (H : Heap) (t : TypeId) (a : Addr) (v : Value) : Option Heap :=
  match V.ty.get t with
  | none => none
  | some tv => match Nat.beq v.cells.size tv.size with
    | true => H.storeN a v.cells.toList
    | false => none

/-- A part of an aggregate. -/
def part (t : TypeId) (cs : Array Value) (off : Nat) : Option Value :=
  match V.ty.get t with
  | none => none
  | some tv => match tv.agg with
    | true => some (.agg ⟨(cs.toList.drop off).take tv.size⟩)
    | false => cs.toList[off]?

mutual
/-- x == y at a type, where it is told by the values alone. -/
def eqT : Nat → TypeId → Value → Value → Option Bool
  | 0, _, _, _ => none
  | n + 1, t, x, y =>
    match V.ty.get t with
    | none => none
    | some tv =>
      match tv.desc, x, y with
      | .bool, .bool a, .bool b => some (a == b)
      | .int _, .int k a, .int k' b => match decide (k = k') with
        | true => some (a == b)
        | false => none
      | .string, .string a, .string b => some (a == b)
      | .pointer _, .pointer none, .pointer b => some b.isNone
      | .pointer _, .pointer (some _), .pointer none => some false
      | .slice _, .slice none _ _, .slice b _ _ => some b.isNone
      | .slice _, .slice (some _) _ _, .slice none _ _ => some false
      | .map _ _, .map none, .map b => some b.isNone
      | .map _ _, .map (some _), .map none => some false
      | .func _ _ _, .nilFunc, .nilFunc => some true
      | .func _ _ _, .nilFunc, .func _ _ _ => some false
      | .func _ _ _, .func _ _ _, .nilFunc => some false
      | .struct fs, .agg xs, .agg ys => match tv.plainEq with
        | true => eqFields n fs.toList xs ys
        | false => none
      | .array len e, .agg xs, .agg ys => match tv.plainEq with
        | true => match V.ty.get e with
          | some ev => eqElems n e ev.size len 0 xs ys
          | none => none
        | false => none
      | _, _, _ => none
def eqFields : Nat → List Field → Array Value → Array Value → Option Bool
  | 0, _, _, _ => none
  | _ + 1, [], _, _ => some true
  | n + 1, f :: fs, xs, ys =>
    match decide (f.name = "_") with
    | true => none
    | false =>
      match V.part f.type xs f.offset, V.part f.type ys f.offset with
      | some a, some b => match eqT n f.type a b with
        | some true => eqFields n fs xs ys
        | some false => some false
        | none => none
      | _, _ => none
def eqElems : Nat → TypeId → Nat → Nat → Nat → Array Value → Array Value → Option Bool
  | 0, _, _, _, _, _, _ => none
  | _ + 1, _, _, 0, _, _, _ => some true
  | n + 1, e, sz, len + 1, i, xs, ys =>
    match V.part e xs (i * sz), V.part e ys (i * sz) with
    | some a, some b => match eqT n e a b with
      | some true => eqElems n e sz len (i + 1) xs ys
      | some false => some false
      | none => none
    | _, _ => none
end

def depth : Nat := 100

def bits (op : BinOp) (k : IntKind) (x y : Int) : Option Int :=
  let a := BitVec.ofInt k.bits x
  let b := BitVec.ofInt k.bits y
  match op with
  | .and => some (k.wrap (a &&& b).toNat)
  | .or => some (k.wrap (a ||| b).toNat)
  | .xor => some (k.wrap (a ^^^ b).toNat)
  | .andNot => some (k.wrap (a &&& ~~~b).toNat)
  | _ => none

def intOp (op : BinOp) (k : IntKind) (a b : Int) : Option Value :=
  match op with
  | .add => some (.int k (k.wrap (a + b)))
  | .sub => some (.int k (k.wrap (a - b)))
  | .mul => some (.int k (k.wrap (a * b)))
  | .quo => match decide (b = 0) with
    | true => none
    | false => some (.int k (k.wrap (a.tdiv b)))
  | .rem => match decide (b = 0) with
    | true => none
    | false => some (.int k (a.tmod b))
  | .and | .or | .xor | .andNot => match bits op k a b with
    | some c => some (.int k c)
    | none => none
  | .eql => some (.bool (a == b))
  | .neq => some (.bool (a != b))
  | .lss => some (.bool (decide (a < b)))
  | .leq => some (.bool (decide (a ≤ b)))
  | .gtr => some (.bool (decide (b < a)))
  | .geq => some (.bool (decide (b ≤ a)))
  | _ => none

def shift (op : BinOp) (k : IntKind) (a b : Int) : Option Value :=
  match decide (b < 0) with
  | true => none
  | false =>
    let n := Nat.min b.toNat k.bits
    match op with
    | .shl => some (.int k (k.wrap (a * 2 ^ n)))
    | .shr => some (.int k (a.fdiv (2 ^ n)))
    | _ => none

def stringOp (op : BinOp) (a b : ByteArray) : Option Value :=
  match op with
  | .add => match Nat.ble (a.size + b.size) 9223372036854775807 with
    | true => some (.string (a ++ b))
    | false => none
  | .eql => some (.bool (a.toList == b.toList))
  | .neq => some (.bool (!(a.toList == b.toList)))
  | _ => none

def binOp (op : BinOp) (t : TypeId) (x y : Value) : Option Value :=
  match x, y with
  | .int k a, .int k' b =>
    match op with
    | .shl | .shr => shift op k a b
    | _ => match decide (k = k') with
      | true => intOp op k a b
      | false => none
  | .string a, .string b => stringOp op a b
  | .nilIface, _ => none
  | x, y =>
    match op with
    | .eql => match V.eqT depth t x y with
      | some b => some (.bool b)
      | none => none
    | .neq => match V.eqT depth t x y with
      | some b => some (.bool (!b))
      | none => none
    | _ => none

def unOp (op : UnOp) (x : Value) : Option Value :=
  match op, x with
  | .neg, .int k n => some (.int k (k.wrap (0 - n)))
  | .xor, .int k n => match bits .xor k (if k.signed then -1 else k.max) n with
    | some c => some (.int k c)
    | none => none
  | .not, .bool b => some (.bool (!b))
  | _, _ => none

def convert (d : TypeId) (x : Value) : Option Value :=
  match V.ty.get d with
  | none => none
  | some tv => match tv.desc, x with
    | .int k, .int _ n => some (.int k (k.wrap n))
    | .string, .string s => some (.string s)
    | _, _ => none

/-- A capacity as it is kept here: 2 k + 1: just k; 2 k: k or more. -/
def exactly (k : Nat) : Nat := 2 * k + 1
def atLeast (k : Nat) : Nat := 2 * k
def exactB (c : Nat) : Bool := Nat.beq (c % 2) 1

def bound (v : Value) (y : Nat) : Option Nat :=
  match v with
  | .int _ i => match decide (0 ≤ i) && Nat.ble i.toNat y with
    | true => some i.toNat
    | false => none
  | _ => none

/-- The bounds of a slice expression: low, high and the new capacity's end. -/
def bounds (len cap : Nat) (lo hi mx : Option Value) : Option (Nat × Nat × Nat) :=
  match (match mx with | some v => bound v cap | none => some cap) with
  | none => none
  | some m =>
    match (match hi, mx with | some v, _ => bound v m | none, none => some len | none, some _ => none) with
    | none => none
    | some h =>
      match (match lo with | some v => bound v h | none => some 0) with
      | none => none
      | some l => some (l, h, m)

def off (a : Addr) (n : Nat) : Addr := ⟨a.block, a.off + n, none⟩

/-- x[lo:hi:mx] of a slice. -/
def sliceSlice (H : Heap) (size : Nat) (a : Option Addr) (len c : Nat) (lo hi mx : Option Value) : Option Value :=
  match bounds len (c / 2) lo hi mx with
  | none => none
  | some (l, h, m) =>
    match a with
    | none => match Nat.beq m 0 with
      | true => some (.slice none 0 0)
      | false => none
    | some a =>
      match exactB c || mx.isSome with
      | true => some (.slice (some (match Nat.beq m l with | true => a | false => off a (l * size))) (h - l) (exactly (m - l)))
      | false => match H.get a.block with
        | some (.cells true g _) => match Nat.beq g size with
          | true => some (.slice (some (off a (l * size))) (h - l) (atLeast (m - l)))
          | false => none
        | _ => none

def slice (H : Heap) (t : TypeId) (x : Value) (lo hi mx : Option Value) : Option Value :=
  match V.ty.get t with
  | none => none
  | some tv =>
    match tv.desc, x with
    | .array n e, .pointer (some a) =>
      match V.ty.get e, bounds n n lo hi mx with
      | some ev, some (l, h, m) => some (.slice (some (match Nat.beq m l with | true => a | false => off a (l * ev.size))) (h - l) (exactly (m - l)))
      | _, _ => none
    | .slice e, .slice a len c =>
      match V.ty.get e with
      | some ev => sliceSlice H ev.size a len c lo hi mx
      | none => none
    | .pointer arr, .pointer (some a) =>
      match V.ty.get arr with
      | some av => match av.desc with
        | .array n e =>
          match V.ty.get e, bounds n n lo hi mx with
          | some ev, some (l, h, m) => some (.slice (some (match Nat.beq m l with | true => a | false => off a (l * ev.size))) (h - l) (exactly (m - l)))
          | _, _ => none
        | _ => none
      | none => none
    | .string, .string s =>
      match mx with
      | some _ => none
      | none => match bounds s.size s.size lo hi none with
        | some (l, h, _) => some (.string (s.extract l h))
        | none => none
    | _, _ => none

def indexAddr (t : TypeId) (x i : Value) : Option Value :=
  match V.ty.get t, i with
  | some tv, .int _ i =>
    match tv.desc, x with
    | .array len e, .pointer (some a) =>
      match V.ty.get e, decide (0 ≤ i) && Nat.blt i.toNat len with
      | some ev, true => some (.pointer (some (off a (i.toNat * ev.size))))
      | _, _ => none
    | .slice e, .slice (some a) len _ =>
      match V.ty.get e, decide (0 ≤ i) && Nat.blt i.toNat len with
      | some ev, true => some (.pointer (some (off a (i.toNat * ev.size))))
      | _, _ => none
    | _, _ => none
  | _, _ => none

def fieldAddr (s : TypeId) (x : Value) (f : Nat) : Option Value :=
  match V.ty.get s, x with
  | some tv, .pointer (some a) =>
    match tv.desc with
    | .struct fs => match fs.toList[f]? with
      | some fd => match V.ty.get fd.type with
        | some fv => match Nat.beq fv.size 0 with
          | true => none
          | false => some (.pointer (some (off a fd.offset)))
        | none => none
      | none => none
    | _ => none
  | _, _ => none

def field (s : TypeId) (x : Value) (f : Nat) : Option Value :=
  match V.ty.get s, x with
  | some tv, .agg cs =>
    match tv.desc with
    | .struct fs => match fs.toList[f]? with
      | some fd => V.part fd.type cs fd.offset
      | none => none
    | _ => none
  | _, _ => none

def index (t : TypeId) (x i : Value) : Option Value :=
  match V.ty.get t, i with
  | some tv, .int _ i =>
    match tv.desc, x with
    | .array len e, .agg cs =>
      match V.ty.get e, decide (0 ≤ i) && Nat.blt i.toNat len with
      | some ev, true => V.part e cs (i.toNat * ev.size)
      | _, _ => none
    | .string, .string s =>
      match decide (0 ≤ i) with
      | true => match s.data.toList[i.toNat]? with
        | some b => some (.int .u8 b.toNat)
        | none => none
      | false => none
    | _, _ => none
  | _, _ => none

/-- Parts put into cells: place and size of each. -/
def fillFields (place : Nat → Option (Nat × Nat)) (c : List Value) : List (Nat × Value) → Option (List Value)
  | [] => some c
  | (i, v) :: rest =>
    match place i with
    | none => none
    | some (o, size) =>
      match Nat.beq v.cells.size size && Nat.ble (o + v.cells.size) c.length with
      | true => fillFields place (Heap.putFrom c o v.cells.toList) rest
      | false => none

/-- Where a field lies, and how many cells it has. -/
def place (fs : Array Field) (i : Nat) : Option (Nat × Nat) :=
  match fs.toList[i]? with
  | some f => match V.ty.get f.type with
    | some fv => some (f.offset, fv.size)
    | none => none
  | none => none

def elemPlace (sz : Nat) (i : Nat) : Option (Nat × Nat) := some (i * sz, sz)

def build (t : TypeId) (parts : List (Nat × Value)) : Option Value :=
  match V.ty.get t with
  | none => none
  | some tv =>
    match tv.desc with
    | .struct fs =>
      match fillFields (V.place fs) tv.zero.cells.toList parts with
      | some c => some (.agg ⟨c⟩)
      | none => none
    | .array _ e =>
      match V.ty.get e with
      | some ev => match fillFields (elemPlace ev.size) tv.zero.cells.toList parts with
        | some c => some (.agg ⟨c⟩)
        | none => none
      | none => none
    | _ => none

/-- n times some cells. -/
def reps (z : List Value) : Nat → List Value
  | 0 => []
  | n + 1 => z ++ reps z n

def buildSlice (H : Heap) (t : TypeId) (len : Nat) (parts : List (Nat × Value)) : Option (Value × Heap) :=
  match V.ty.get t with
  | none => none
  | some tv =>
    match tv.desc with
    | .slice e =>
      match V.ty.get e with
      | some ev =>
        match Nat.ble (len * ev.size) 16777216 && Nat.beq ev.zero.cells.size ev.size && Nat.blt 0 ev.size with
        | true => match fillFields (elemPlace ev.size) (reps ev.zero.cells.toList len) parts with
          | some c => some (.slice (some ⟨H.next, 0, none⟩) len (exactly len), H.push (.cells true 0 c))
          | none => none
        | false => none
      | none => none
    | _ => none

def makeSlice (H : Heap) (t : TypeId) (l c : Value) : Option (Value × Heap) :=
  match V.ty.get t, l, c with
  | some tv, .int _ l, .int _ c =>
    match tv.desc with
    | .slice e =>
      match V.ty.get e with
      | some ev =>
        match decide (0 ≤ l) && decide (l ≤ c) && decide (c ≤ 1073741824) && Nat.ble ev.bytes 65536 && Nat.beq ev.zero.cells.size ev.size && Nat.blt 0 ev.size with
        | true => some (.slice (some ⟨H.next, 0, none⟩) l.toNat (exactly c.toNat), H.push (.cells true 0 (reps ev.zero.cells.toList c.toNat)))
        | false => none
      | none => none
    | _ => none
  | _, _, _ => none

/-- A key of a map: of parts that are compared by their values alone. -/
def keyT : Nat → TypeId → Value → Bool
  | 0, _, _ => false
  | n + 1, t, v =>
    match V.ty.get t with
    | none => false
    | some tv =>
      match tv.desc, v with
      | .bool, .bool _ | .int _, .int _ _ | .string, .string _ => true
      | .struct fs, .agg cs => fs.toList.all fun f => match V.part f.type cs f.offset with
        | some p => keyT n f.type p
        | none => false
      | .array len e, .agg cs => match V.ty.get e with
        | some ev => (List.range len).all fun i => match V.part e cs (i * ev.size) with
          | some p => keyT n e p
          | none => false
        | none => false
      | _, _ => false

/-- Where a key is: nothing, if it cannot be told. -/
def findK (t : TypeId) (k : Value) : List MapEntry → Nat → Option (Option (Nat × Value))
  | [], _ => some none
  | e :: es, i =>
    match V.eqT depth t k e.key with
    | some true => some (some (i, e.val))
    | some false => findK t k es (i + 1)
    | none => none

def mapTypes (t : TypeId) : Option (TypeId × TypeId) :=
  match V.ty.get t with
  | some tv => match tv.desc with
    | .map k e => some (k, e)
    | _ => none
  | none => none

/-- A value, or a value and whether it was there. -/
def okPair (ok : Bool) (v : Value) (b : Bool) : Value := match ok with
  | true => .tuple #[v, .bool b]
  | false => v

def lookIn (kt el : TypeId) (k : Value) (ok : Bool) (es : List MapEntry) : Option Value :=
  match V.findK kt k es 0 with
  | none => none
  | some (some (_, v)) => some (okPair ok v true)
  | some none => match V.ty.get el with
    | some ev => some (okPair ok ev.zero false)
    | none => none

def lookup (H : Heap) (t : TypeId) (m k : Value) (ok : Bool) : Option Value :=
  match V.mapTypes t with
  | none => none
  | some (kt, e) =>
    match V.keyT depth kt k with
    | false => none
    | true =>
      match m with
      | .map none => V.lookIn kt e k ok []
      | .map (some r) => match H.get r with
        | some (.map _ es _) => V.lookIn kt e k ok es
        | _ => none
      | _ => none

/-- Whether two keys are the same to the sign: parts that hold no address. -/
def sameK : Nat → Value → Value → Bool
  | 0, _, _ => false
  | n + 1, x, y => match x, y with
    | .bool a, .bool b => a == b
    | .int j a, .int k b => j == k && a == b
    | .string a, .string b => a == b
    | .agg a, .agg b => a.size == b.size && (a.toList.zip b.toList).all fun p => sameK n p.1 p.2
    | _, _ => false

/-- The entries with the value of one changed. -/
def putVal (v : Value) : List MapEntry → Nat → List MapEntry
  | [], _ => []
  | e :: es, 0 => { e with val := v } :: es
  | e :: es, i + 1 => e :: putVal v es i

def mapUpdate (H : Heap) (t : TypeId) (m k v : Value) : Option Heap :=
  match V.mapTypes t, m with
  | some (kt, _), .map (some r) =>
    match V.keyT depth kt k, H.get r with
    | true, some (.map true es clock) =>
      match V.findK kt k es 0 with
      | some (some (i, _)) => match es[i]? with
        | some x => match sameK 10 x.key k with
          | true => some (H.upd r (.map true (putVal v es i) clock))
          | false => none
        | none => none
      | some none => some (H.upd r (.map true (es ++ [{ key := k, val := v, born := clock }]) (clock + 1)))
      | none => none
    | _, _ => none
  | _, _ => none

def mapEntry (H : Heap) (t : TypeId) (m k : Value) : Option (Value × Heap) :=
  match V.mapTypes t, m with
  | some (kt, e), .map (some r) =>
    match V.keyT depth kt k, H.get r, V.ty.get e with
    | true, some (.map true es clock), some ev =>
      match V.findK kt k es 0 with
      | some (some (i, v)) => match es[i]? with
        | some x => match sameK 10 x.key k with
          | true => some (.tuple #[v, .int .i64 x.born], H.upd r (.map true es clock))
          | false => none
        | none => none
      | some none => some (.tuple #[ev.zero, .int .i64 clock], H.upd r (.map true (es ++ [{ key := k, val := ev.zero, born := clock }]) (clock + 1)))
      | none => none
    | _, _, _ => none
  | _, _ => none

/-- Which entry was born then. -/
def bornAt (n : Int) : List MapEntry → Nat → Option Nat
  | [], _ => none
  | e :: es, i => match decide ((e.born : Int) = n) with
    | true => some i
    | false => bornAt n es (i + 1)

def entryStore (H : Heap) (m s v : Value) : Option Heap :=
  match m, s with
  | .map (some r), .int _ n =>
    match H.get r with
    | some (.map true es clock) => match bornAt n es 0 with
      | some i => some (H.upd r (.map true (putVal v es i) clock))
      | none => none
    | _ => none
  | _, _ => none

/-- The first n elements of what is appended or copied. -/
def firstN (H : Heap) (size n : Nat) (x : Value) : Option (List Value) :=
  match x with
  | .slice (some a) _ _ => H.cellsN a (n * size)
  | .slice none _ _ => match Nat.beq n 0 with
    | true => some []
    | false => none
  | .string s => match Nat.beq size 1 with
    | true => some (((s.extract 0 n).data.toList).map fun b => .int .u8 b.toNat)
    | false => none
  | _ => none

def lenV : Value → Option Nat
  | .slice _ n _ => some n
  | .string s => some s.size
  | _ => none

def elemV (t : TypeId) : Option TV :=
  match V.ty.get t with
  | some tv => match tv.desc with
    | .slice e => V.ty.get e
    | _ => none
  | none => none

/-- append of new cells (n elements) to a slice. -/
def appendTo (H : Heap) (ev : TV) (base : Option Addr) (len c n : Nat) (new : List Value) : Option (Value × Heap) :=
  let need := len + n
  match Nat.ble need (c / 2) with
  | true =>
    -- there is room
    match base with
    | none => some (.slice none 0 0, H)
    | some a =>
      match H.storeN (off a (len * ev.size)) new with
      | some H' => some (.slice (some a) need c, H')
      | none => match new with
        | [] => some (.slice (some a) need c, H)
        | _ :: _ => none
  | false =>
    match Nat.ble need 1073741824 && Nat.ble ev.bytes 65536 && Nat.beq ev.zero.cells.size ev.size && Nat.blt 0 ev.size with
    | false => none
    | true =>
      match base with
      | none => some (.slice (some ⟨H.next, 0, none⟩) need (atLeast need), H.push (.cells true ev.size new))
      | some a =>
        match H.cellsN a (len * ev.size) with
        | none => none
        | some old =>
          match exactB c with
          | true => some (.slice (some ⟨H.next, 0, none⟩) need (atLeast need), H.push (.cells true ev.size (old ++ new)))
          | false =>
            -- whether there is room is not known: the old row is gone
            match H.get a.block with
            | some (.cells true g _) => match Nat.beq g ev.size && new.all oneCell with
              | true => some (.slice (some ⟨H.next, 0, none⟩) need (atLeast need), (H.kill a.block).push (.cells true ev.size (old ++ new)))
              | false => none
            | _ => none

def append (H : Heap) (ts : List TypeId) (args : List Value) : Option (Value × Heap) :=
  match ts, args with
  | t :: t2 :: _, .slice base len c :: x :: _ =>
    match V.elemV t, V.ty.get t2, lenV x with
    | some ev, some tv2, some n =>
      match tv2.desc with
      | .slice _ | .string =>
        match firstN H ev.size n x with
        | some new => appendTo H ev base len c n new
        | none => none
      | _ => none
    | some ev, some tv2, none =>
      -- append(s, make([]T, n)...)
      match tv2.desc, x with
      | .int _, .int _ i => match decide (0 ≤ i) && decide (i ≤ 1073741824) && Nat.ble ev.bytes 65536 && Nat.beq ev.zero.cells.size ev.size && Nat.blt 0 ev.size with
        | true => appendTo H ev base len c i.toNat (reps ev.zero.cells.toList i.toNat)
        | false => none
      | _, _ => none
    | _, _, _ => none
  | _, _ => none

def cap (ts : List TypeId) (args : List Value) : Option Value :=
  match ts, args with
  | t :: _, .slice a _ c :: _ =>
    match V.elemV t, a with
    | some _, none => some (.int .i64 0)
    | some _, some _ => match exactB c with
      | true => some (.int .i64 (c / 2 : Nat))
      | false => none
    | none, _ => none
  | _, _ => none

def copy (H : Heap) (ts : List TypeId) (args : List Value) : Option (Value × Heap) :=
  match ts, args with
  | t :: _, .slice base dlen _ :: x :: _ =>
    match V.elemV t, lenV x with
    | some ev, some m =>
      let n := Nat.min m dlen
      match firstN H ev.size n x with
      | some new =>
        match base, new with
        | none, _ => some (.int .i64 n, H)
        | some _, [] => some (.int .i64 n, H)
        | some a, _ :: _ => match H.storeN a new with
          | some H' => some (.int .i64 n, H')
          | none => none
      | none => none
    | _, _ => none
  | _, _ => none

def clear (H : Heap) (ts : List TypeId) (args : List Value) : Option (Value × Heap) :=
  match ts, args with
  | _ :: _, .map none :: _ => some (.tuple #[], H)
  | _ :: _, .slice none _ _ :: _ => some (.tuple #[], H)
  | _ :: _, .slice (some _) 0 _ :: _ => some (.tuple #[], H)
  | t :: _, .slice (some a) (n + 1) _ :: _ =>
    match V.elemV t with
    | some ev => match Nat.beq ev.zero.cells.size ev.size && Nat.blt 0 ev.size with
      | true => match H.storeN a (reps ev.zero.cells.toList (n + 1)) with
        | some H' => some (.tuple #[], H')
        | none => none
      | false => none
    | none => none
  | _ :: _, .map (some r) :: _ =>
    match H.get r with
    | some (.map true _ clock) => some (.tuple #[], H.upd r (.map true [] clock))
    | _ => none
  | _, _ => none

def dropAt : List MapEntry → Nat → List MapEntry
  | [], _ => []
  | _ :: es, 0 => es
  | e :: es, i + 1 => e :: dropAt es i

def delete (H : Heap) (ts : List TypeId) (args : List Value) : Option (Value × Heap) :=
  match ts, args with
  | t :: _, .map (some r) :: k :: _ =>
    match V.mapTypes t with
    | some (kt, _) =>
      match V.keyT depth kt k, H.get r with
      | true, some (.map true es clock) =>
        match V.findK kt k es 0 with
        | some (some (i, _)) => some (.tuple #[], H.upd r (.map true (dropAt es i) clock))
        | some none => some (.tuple #[], H.upd r (.map true es clock))
        | none => none
      | _, _ => none
    | none => none
  | _, _ => none

def len (H : Heap) (ts : List TypeId) (args : List Value) : Option Value :=
  match ts, args with
  | t :: _, x :: _ =>
    match V.ty.get t with
    | none => none
    | some tv =>
      match tv.desc, x with
      | .string, .string s => some (.int .i64 s.size)
      | .slice _, .slice _ n _ => some (.int .i64 n)
      | .array n _, _ => some (.int .i64 n)
      | .map _ _, .map none => some (.int .i64 0)
      | .map _ _, .map (some r) => match H.get r with
        | some (.map _ es _) => some (.int .i64 es.length)
        | _ => none
      | _, _ => none
  | _, _ => none

def most (less : Bool) : Int → IntKind → List Value → Option Value
  | a, k, [] => some (.int k a)
  | a, k, .int k' b :: l => match decide (k = k') with
    | true => most less (match less with | true => (if b < a then b else a) | false => (if b > a then b else a)) k l
    | false => none
  | _, _, _ => none

/-- What an operation comes to: a value, a call, a round. -/
inductive Nx where
  | val (v : Value) (H : Heap)
  | enter (f : FuncId) (args : List Value) (H : Heap)
  | yield (l : Nat) (args : List Value) (H : Heap)

def value (v : Option Value) (H : Heap) : Option Nx := match v with | some v => some (.val v H) | none => none
def both (r : Option (Value × Heap)) : Option Nx := match r with | some (v, H) => some (.val v H) | none => none
def quiet (r : Option Heap) : Option Nx := match r with | some H => some (.val undef H) | none => none

def builtin (H : Heap) (b : Builtin) (ts : List TypeId) (args : List Value) : Option Nx :=
  match b with
  | .append => both (V.append H ts args)
  | .len => value (V.len H ts args) H
  | .cap => value (V.cap ts args) H
  | .copy => both (V.copy H ts args)
  | .clear => both (V.clear H ts args)
  | .delete => both (V.delete H ts args)
  | .min => match args with
    | .int k a :: l => value (most true a k l) H
    | _ => none
  | .max => match args with
    | .int k a :: l => value (most false a k l) H
    | _ => none
  | _ => none

def callValue (H : Heap) (f : Value) (args : List Value) : Option Nx :=
  match f with
  | .func (.func g) first cap => some (.enter g (first.toList ++ args ++ cap.toList) H)
  | .func (.yield l) first _ => some (.yield l (first.toList ++ args) H)
  | .func (.via t path g ptr) first _ =>
    match path.toList, V.ty.get t, ptr with
    | [], some tv, true => match tv.desc with
      | .pointer _ => match first.toList ++ args with
        | x :: rest => some (.enter g (x :: rest) H)
        | [] => none
      | _ => none
    | [], some tv, false => match tv.desc with
      | .pointer _ => none
      | _ => match first.toList ++ args with
        | x :: rest => some (.enter g (x :: rest) H)
        | [] => none
    | _, _, _ => none
  | _ => none

def op (ρ : Operand → Value) (H : Heap) (o : Op) : Option Nx :=
  match o with
  | .move x | .assign x => some (.val (ρ x) H)
  | .pick c a b => match ρ c with
    | .bool true => some (.val (ρ a) H)
    | .bool false => some (.val (ρ b) H)
    | _ => none
  | .alloc e => match V.ty.get e with
    | some ev => some (.val (.pointer (some ⟨H.next, 0, none⟩)) (H.push (.cells true 0 ev.zero.cells.toList)))
    | none => none
  | .box _ x => some (.val (.pointer (some ⟨H.next, 0, none⟩)) (H.push (.cells true 0 (ρ x).cells.toList)))
  | .build t ps => value (V.build t (ps.toList.map fun (i, x) => (i, ρ x))) H
  | .buildSlice t n ps => both (V.buildSlice H t n (ps.toList.map fun (i, x) => (i, ρ x)))
  | .load t a => match ρ a with
    | .pointer (some a) => value (V.loadVar H t a) H
    | _ => none
  | .store t a x => match ρ a with
    | .pointer (some a) => quiet (V.storeVar H t a (ρ x))
    | _ => none
  | .nilCheck x => match ρ x with
    | .pointer (some a) => some (.val (.pointer (some a)) H)
    | _ => none
  | .binOp op t x y _ => value (V.binOp op t (ρ x) (ρ y)) H
  | .unOp op _ x => value (unOp op (ρ x)) H
  | .convert _ d x => value (V.convert d (ρ x)) H
  | .makeFunc fn first cap => some (.val (.func fn (first.map ρ) (cap.map ρ)) H)
  | .makeMap _ none => some (.val (.map (some H.next)) (H.push (.map true [] 0)))
  | .makeMap t (some x) => match V.mapTypes t, ρ x with
    | some _, .int _ _ => some (.val (.map (some H.next)) (H.push (.map true [] 0)))
    | _, _ => none
  | .makeSlice t l c => both (V.makeSlice H t (ρ l) (ρ c))
  | .slice t x lo hi mx => value (V.slice H t (ρ x) (lo.map ρ) (hi.map ρ) (mx.map ρ)) H
  | .fieldAddr s x f => value (V.fieldAddr s (ρ x) f) H
  | .field s x f => value (V.field s (ρ x) f) H
  | .indexAddr t x i => value (V.indexAddr t (ρ x) (ρ i)) H
  | .index t x i => value (V.index t (ρ x) (ρ i)) H
  | .lookup t m k ok => value (V.lookup H t (ρ m) (ρ k) ok) H
  | .mapUpdate t m k v | .insert t m k v => quiet (V.mapUpdate H t (ρ m) (ρ k) (ρ v))
  | .mapEntry t m k => both (V.mapEntry H t (ρ m) (ρ k))
  | .entryStore _ m s v => quiet (entryStore H (ρ m) (ρ s) (ρ v))
  | .extract x i => match ρ x with
    | .tuple vs => value vs.toList[i]? H
    | _ => none
  | .call c => match c.callee with
    | .value f => V.callValue H (ρ f) (c.args.toList.map ρ)
    | .builtin b => V.builtin H b c.argTypes.toList (c.args.toList.map ρ)
    | .invoke _ _ => none
  | _ => none

end View

/-- What an operand is. -/
def look (env : T Value) : Operand → Value
  | .tmp t => match env.get t with
    | some v => v
    | none => undef
  | .const v => v
  | .global g => .pointer (some ⟨g, 0, none⟩)
  | .func f => .func (.func f) #[] #[]

/-- How a piece of code ends. -/
inductive AExit where
  | normal
  | exit (id : Nat)
  | ret

/-- Whether an operation is done: its guard. -/
def wantedA (ops : List Oper) (env : T Value) (o : Oper) : Bool :=
  match o.guard with
  | none => true
  | some (j, want) =>
    match ops[j]? with
    | some p => match p.dst with
      | some d => match env.get d with
        | some (.bool b) => b == want
        | _ => false
      | none => false
    | none => false

def putDst (nt : Nat) (o : Oper) (v : Value) (env : T Value) : Option (T Value) :=
  match o.dst with
  | none => some env
  | some d => match Nat.blt d nt with
    | true => some (env.set d v)
    | false => none

/-- Arguments, put into places one after the other. -/
def putAll (nt : Nat) : List Tmp → List Value → T Value → Option (T Value)
  | [], [], env => some env
  | p :: ps, v :: vs, env => match Nat.blt p nt with
    | true => putAll nt ps vs (env.set p v)
    | false => none
  | _, _, _ => none

def resultsOf (V : View) (H : Heap) (env : T Value) : List ResultVar → Option (List Value)
  | [] => some []
  | .tmp t :: rs => match resultsOf V H env rs with
    | some l => some (look env (.tmp t) :: l)
    | none => none
  | .cell a t :: rs => match look env (.tmp a) with
    | .pointer (some p) => match V.loadVar H t p, resultsOf V H env rs with
      | some v, some l => some (v :: l)
      | _, _ => none
    | _ => none

def oneOf (l : List Value) : Value := match l with
  | [v] => v
  | l => .tuple ⟨l⟩

/-- Whether two values are surely the same. -/
def sameV : Nat → Value → Value → Bool
  | 0, _, _ => false
  | n + 1, x, y => match x, y with
    | .bool a, .bool b => a == b
    | .int j a, .int k b => decide (j = k) && a == b
    | .string a, .string b => a.data.toList == b.data.toList
    | .pointer none, .pointer none => true
    | .pointer (some a), .pointer (some b) => decide (a = b)
    | .slice none l c, .slice none l' c' => Nat.beq l l' && Nat.beq c c'
    | .slice (some a) l c, .slice (some b) l' c' => decide (a = b) && Nat.beq l l' && Nat.beq c c'
    | .map none, .map none => true
    | .map (some a), .map (some b) => Nat.beq a b
    | .nilFunc, .nilFunc => true
    | .nilIface, .nilIface => true
    | .func f a c, .func g b d => decide (f = g) && sameL n a.toList b.toList && sameL n c.toList d.toList
    | .agg a, .agg b => sameL n a.toList b.toList
    | .tuple a, .tuple b => sameL n a.toList b.toList
    | _, _ => false
where
  sameL (n : Nat) : List Value → List Value → Bool
    | [], [] => true
    | x :: xs, y :: ys => sameV n x y && sameL n xs ys
    | _, _ => false

/-- Whether an operation reads the same at other heaps. -/
def sameAt (V : View) (ρ : Operand → Value) (o : Oper) (v : Value) : List Heap → Bool
  | [] => true
  | H :: Hs => (match V.op ρ H o.op with
    | some (.val u _) => sameV 10 u v
    | _ => false) && sameAt V ρ o v Hs

/-- What an operation reads, where it reads the same at some heaps. -/
def peek (V : View) (ρ : Operand → Value) (o : Oper) : List Heap → Option Value
  | [] => none
  | H :: Hs => match V.op ρ H o.op with
    | some (.val v _) => match sameAt V ρ o v Hs with
      | true => some v
      | false => none
    | _ => none

/-- An operation that works on values alone. -/
def pureOp : Op → Bool
  | .move _ | .assign _ | .pick .. | .build .. | .nilCheck _ | .binOp .. | .unOp .. | .convert .. | .fieldAddr .. | .field .. | .indexAddr .. | .index .. | .extract .. | .makeFunc .. => true
  | .call c => match c.callee with
    | .builtin b => match b with
      | .cap | .min | .max => true
      | _ => false
    | _ => false
  | _ => false

/-- An operation that reads, and no more. -/
def stillOp : Op → Bool
  | .load .. | .lookup .. | .slice .. => true
  | .call c => match c.callee with
    | .builtin b => match b with
      | .len => true
      | _ => false
    | _ => false
  | _ => false

/-- Whether an operation makes a block, and no more. -/
def mkOp : Op → Bool
  | .alloc _ | .box .. | .buildSlice .. | .makeSlice .. | .makeMap .. => true
  | _ => false

/-- The block that an operation makes, and the value that names it. -/
def mkOf : Option (Value × Heap) → Option (AObj × (Nat → Value))
  | some (.slice (some _) l c, H) => match H.get 0 with
    | some o => some (o, fun id => .slice (some ⟨id, 0, none⟩) l c)
    | none => none
  | _ => none
def View.mk' (V : View) (ρ : Operand → Value) : Op → Option (AObj × (Nat → Value))
  | .alloc e => match V.ty.get e with
    | some ev => some (.cells true 0 ev.zero.cells.toList, fun id => .pointer (some ⟨id, 0, none⟩))
    | none => none
  | .box _ x => some (.cells true 0 (ρ x).cells.toList, fun id => .pointer (some ⟨id, 0, none⟩))
  | .buildSlice t n ps => mkOf (V.buildSlice ⟨.leaf, 0⟩ t n (ps.toList.map fun (i, x) => (i, ρ x)))
  | .makeSlice t l c => mkOf (V.makeSlice ⟨.leaf, 0⟩ t (ρ l) (ρ c))
  | .makeMap _ none => some (.map true [] 0, fun id => .map (some id))
  | .makeMap t (some x) => match V.mapTypes t, ρ x with
    | some _, .int _ _ => some (.map true [] 0, fun id => .map (some id))
    | _, _ => none
  | _ => none

/-- Some of a list. -/
def pickL {α : Type} (l : List α) : List Nat → Option (List α)
  | [] => some []
  | i :: is => match l[i]?, pickL l is with
    | some x, some xs => some (x :: xs)
    | _, _ => none

/-- The executor: code, a call, a round; the first number bounds how deep it goes. -/
inductive Job where
  /-- code in a frame: function, slots, code, slots' values -/
  | code (fn : FuncId) (nt : Nat) (ro : Option Nat) (c : Code) (env : T Value)
  | ops (fn : FuncId) (nt : Nat) (ro : Option Nat) (all : List Oper) (todo : List Oper) (env : T Value)
  | plan (fn : FuncId) (nt : Nat) (ro : Option Nat) (base : Nat) (all : List Oper) (todo : List Step) (hs : List Heap) (env : T Value)
  | call (f : FuncId) (args : List Value)
  | yield (l : Nat) (args : List Value)

inductive Done where
  | code (x : AExit) (env : T Value) (H : Heap)
  | val (v : Value) (H : Heap)

/-- Whether the loop that a round belongs to is there. -/
def roundLive (H : Heap) : Option Nat → Bool
  | none => true
  | some l => match H.get l with
    | some (.loop _) => true
    | _ => false

/-- How a loop over a function is left. -/
def leaves (p : Option Code) (env : T Value) (H : Heap) : Option Done :=
  match p with
  | none => some (.code .normal env H)
  | some .ret => some (.code .ret env H)
  | some (.exit i) => some (.code (.exit i) env H)
  | some _ => none

def run (V : View) : Nat → Job → Heap → Option Done
  | 0, _, _ => none
  | n + 1, .code fn nt ro c env, H =>
    match c with
    | .skip | .label _ => some (.code .normal env H)
    | .ret => some (.code .ret env H)
    | .exit i => some (.code (.exit i) env H)
    | .seq a b => match run V n (.code fn nt ro a env) H with
      | some (.code .normal env' H') => run V n (.code fn nt ro b env') H'
      | r => r
    | .cond c a b => match look env c with
      | .bool true => run V n (.code fn nt ro a env) H
      | .bool false => run V n (.code fn nt ro b env) H
      | _ => none
    | .block i b => match run V n (.code fn nt ro b env) H with
      | some (.code (.exit j) env' H') => match Nat.beq i j with
        | true => some (.code .normal env' H')
        | false => some (.code (.exit j) env' H')
      | r => r
    | .scope b => run V n (.code fn nt ro b env) H
    | .loop b => match run V n (.code fn nt ro b env) H with
      | some (.code .normal env' H') => run V n (.code fn nt ro (.loop b) env') H'
      | r => r
    | .region id ops draw => match draw with
      | false => run V n (.ops fn nt ro ops.toList ops.toList env) H
      | true => match V.plan.get fn with
        | some t => match t.get id with
          | some p => run V n (.plan fn nt ro H.next ops.toList p [⟨H.t, H.next + ops.size⟩] env) ⟨H.t, H.next + ops.size⟩
          | none => none
        | none => none
    | .rangeFunc f ps as b =>
      match roundLive H ro with
      | false => none
      | true =>
        let l := H.next
        let H1 := H.push (.loop ⟨.ready, none, fn, env, nt, ps.toList, as, b⟩)
        match V.callValue H1 (look env f) [.func (.yield l) #[] #[]] with
        | some (.enter g args _) => match run V n (.call g args) H1 with
          | some (.val _ H2) => match H2.get l with
            | some (.loop s) => match s.state with
              | .busy => none
              | _ => leaves s.pending env (H2.upd l (.loop { s with state := .exhausted }))
            | _ => none
          | _ => none
        | _ => none
    | .goto _ | .refuse _ => none
  | n + 1, .ops fn nt ro all todo env, H =>
    match todo with
    | [] => some (.code .normal env H)
    | o :: rest =>
      match wantedA all env o with
      | false => match putDst nt o undef env with
        | some env' => run V n (.ops fn nt ro all rest env') H
        | none => none
      | true =>
        match V.op (look env) H o.op with
        | some (.val v H') => match putDst nt o v env with
          | some env' => run V n (.ops fn nt ro all rest env') H'
          | none => none
        | some (.enter f args H') => match run V n (.call f args) H' with
          | some (.val v H'') => match putDst nt o v env with
            | some env' => run V n (.ops fn nt ro all rest env') H''
            | none => none
          | _ => none
        | some (.yield l args H') => match run V n (.yield l args) H' with
          | some (.val v H'') => match putDst nt o v env with
            | some env' => run V n (.ops fn nt ro all rest env') H''
            | none => none
          | _ => none
        | none => none
  | n + 1, .plan fn nt ro base all todo hs env, H =>
    match todo with
    | [] => some (.code .normal env H)
    | s :: rest =>
      match all[s.op]? with
      | none => none
      | some o =>
        match wantedA all env o with
        | false => match putDst nt o undef env with
          | some env' => run V n (.plan fn nt ro base all rest (match s.loud with | true => hs ++ [H] | false => hs) env') H
          | none => none
        | true => match s.loud with
          | false => match mkOp o.op with
            | true => match V.mk' (look env) o.op with
              | some (b, f) => match putDst nt o (f (base + s.op)) env with
                | some env' => run V n (.plan fn nt ro base all rest hs env') (H.upd (base + s.op) b)
                | none => none
              | none => none
            | false => match pureOp o.op with
              | true => match V.op (look env) H o.op with
                | some (.val v _) => match putDst nt o v env with
                  | some env' => run V n (.plan fn nt ro base all rest hs env') H
                  | none => none
                | _ => none
              | false => match stillOp o.op, pickL hs s.again with
                | true, some rs => match peek V (look env) o rs with
                  | some v => match putDst nt o v env with
                    | some env' => run V n (.plan fn nt ro base all rest hs env') H
                    | none => none
                  | none => none
                | _, _ => none
          | true => match V.op (look env) H o.op with
            | some (.val v H') => match putDst nt o v env with
              | some env' => run V n (.plan fn nt ro base all rest (hs ++ [H']) env') H'
              | none => none
            | some (.enter f args H') => match run V n (.call f args) H' with
              | some (.val v H'') => match putDst nt o v env with
                | some env' => run V n (.plan fn nt ro base all rest (hs ++ [H'']) env') H''
                | none => none
              | _ => none
            | some (.yield l args H') => match run V n (.yield l args) H' with
              | some (.val v H'') => match putDst nt o v env with
                | some env' => run V n (.plan fn nt ro base all rest (hs ++ [H'']) env') H''
                | none => none
              | _ => none
            | none => none
  | n + 1, .call f args, H =>
    match V.ext f with
    | some g => match g args H with
      | some (v, H') => some (.val v H')
      | none => none
    | none =>
      match V.fn.get f with
      | none => none
      | some fv =>
        match Nat.ble args.length fv.nt with
        | false => none
        | true =>
          match run V n (.code f fv.nt none fv.body (T.ofList args 0 .leaf)) H with
          | some (.code (.exit _) _ _) => none
          | some (.code _ env H') => match resultsOf V H' env fv.results with
            | some l => some (.val (oneOf l) H')
            | none => none
          | _ => none
  | n + 1, .yield l args, H =>
    match H.get l with
    | some (.loop s) =>
      match s.state with
      | .ready =>
        match putAll s.nt s.params args s.env with
        | none => none
        | some env =>
          match run V n (.code s.fn s.nt (some l) s.assign env) H with
          | some (.code .normal env1 H1) =>
            match H1.get l with
            | some (.loop s1) => match s1.state with
              | .ready =>
                let H2 := H1.upd l (.loop { s1 with state := .busy })
                match run V n (.code s.fn s.nt (some l) s.body env1) H2 with
                | some (.code x _ H3) =>
                  match H3.get l with
                  | some (.loop s3) =>
                    match x with
                    | .normal => some (.val (.bool true) (H3.upd l (.loop { s3 with state := .ready, pending := none })))
                    | .ret => some (.val (.bool false) (H3.upd l (.loop { s3 with state := .done, pending := some .ret })))
                    | .exit i => some (.val (.bool false) (H3.upd l (.loop { s3 with state := .done, pending := some (.exit i) })))
                  | _ => none
                | _ => none
              | _ => none
            | _ => none
          | _ => none
      | _ => none
    | _ => none

end
end Go.Sp

-- Sp.Rel
/-! How the executor's values and heap stand to the model's: a renaming of blocks. -/
namespace Go.Sp
noncomputable section
open Go.RowKit (Below)

/-- Where a block of the executor lies: the model's block, from which cell on, how many cells that block has, and how many an element has where it may grow. -/
structure Tgt where
  blk : Nat
  delta : Nat
  csz : Nat
  esz : Nat

abbrev Ren := Nat → Option Tgt

def Ren.with (β : Ren) (b : Nat) (t : Tgt) : Ren := fun x => if x = b then some t else β x
theorem Ren.with_same (β : Ren) (b : Nat) (t : Tgt) : β.with b t b = some t := by simp [Ren.with]
theorem Ren.with_other (β : Ren) {b x : Nat} (t : Tgt) (h : x ≠ b) : β.with b t x = β x := by simp [Ren.with, h]

def Ren.le (β β' : Ren) : Prop := ∀ b t, β b = some t → β' b = some t
theorem Ren.le_refl (β : Ren) : β.le β := fun _ _ h => h
theorem Ren.le_trans {β β' β'' : Ren} (h : β.le β') (k : β'.le β'') : β.le β'' := fun b t e => k b t (h b t e)
theorem Ren.le_with {β : Ren} {b : Nat} (t : Tgt) (h : β b = none) : β.le (β.with b t) := by
  intro x u e
  have : x ≠ b := by intro hx; subst hx; rw [h] at e; cases e
  rw [Ren.with_other _ _ this]; exact e

inductive FnRel (β : Ren) : Fn → Fn → Prop
  | func (f : FuncId) : FnRel β (.func f) (.func f)
  | via (t : TypeId) (p : Array FieldStep) (f : FuncId) (b : Bool) : FnRel β (.via t p f b) (.via t p f b)
  | yield {l : Nat} {t : Tgt} : β l = some t → FnRel β (.yield l) (.yield t.blk)

inductive VRel (β : Ren) : Value → Value → Prop
  | bool (b : Bool) : VRel β (.bool b) (.bool b)
  | int (k : IntKind) (n : Int) : VRel β (.int k n) (.int k n)
  | string (s : ByteArray) : VRel β (.string s) (.string s)
  | pnil : VRel β (.pointer none) (.pointer none)
  | ptr {b o : Nat} {t : Tgt} : β b = some t → VRel β (.pointer (some ⟨b, o, none⟩)) (.pointer (some ⟨t.blk, o + t.delta, none⟩))
  | snil : VRel β (.slice none 0 0) (.slice none 0 0)
  | slice {b o len c cap o' : Nat} {t : Tgt} : β b = some t → len ≤ cap → (View.exactB c = true → cap = c / 2) →
      (View.exactB c = false → c / 2 ≤ cap ∧ o + t.delta + cap * t.esz ≤ t.csz) → (o' = o + t.delta ∨ cap = 0) →
      VRel β (.slice (some ⟨b, o, none⟩) len c) (.slice (some ⟨t.blk, o', none⟩) len cap)
  | mnil : VRel β (.map none) (.map none)
  | map {b : Nat} {t : Tgt} : β b = some t → VRel β (.map (some b)) (.map (some t.blk))
  | func {fn fn' : Fn} {a a' c c' : Array Value} : FnRel β fn fn' → a.size = a'.size → (∀ i, i < a.size → VRel β (a.getD i undef) (a'.getD i undef)) →
      c.size = c'.size → (∀ i, i < c.size → VRel β (c.getD i undef) (c'.getD i undef)) → VRel β (.func fn a c) (.func fn' a' c')
  | nilFunc : VRel β .nilFunc .nilFunc
  | nilIface : VRel β .nilIface .nilIface
  | iface {t : TypeId} {v v' : Value} : VRel β v v' → VRel β (.iface t v) (.iface t v')
  | agg {a a' : Array Value} : a.size = a'.size → (∀ i, i < a.size → VRel β (a.getD i undef) (a'.getD i undef)) → VRel β (.agg a) (.agg a')
  | tuple {a a' : Array Value} : a.size = a'.size → (∀ i, i < a.size → VRel β (a.getD i undef) (a'.getD i undef)) → VRel β (.tuple a) (.tuple a')

theorem FnRel.mono {β β' : Ren} (h : β.le β') {f g : Fn} (r : FnRel β f g) : FnRel β' f g := by
  cases r with
  | func f => exact .func f
  | via t p f b => exact .via t p f b
  | yield e => exact .yield (h _ _ e)

theorem VRel.mono {β β' : Ren} (h : β.le β') {v v' : Value} (r : VRel β v v') : VRel β' v v' := by
  induction r with
  | bool b => exact .bool b
  | int k n => exact .int k n
  | string s => exact .string s
  | pnil => exact .pnil
  | ptr e => exact .ptr (h _ _ e)
  | snil => exact .snil
  | slice e a b c d => exact .slice (h _ _ e) a b c d
  | mnil => exact .mnil
  | map e => exact .map (h _ _ e)
  | func f a _ c _ ih1 ih2 => exact .func (f.mono h) a ih1 c ih2
  | nilFunc => exact .nilFunc
  | nilIface => exact .nilIface
  | iface _ ih => exact .iface ih
  | agg a _ ih => exact .agg a ih
  | tuple a _ ih => exact .tuple a ih

/-- Lists of values, one by one. -/
def LRel (β : Ren) (l l' : List Value) : Prop := l.length = l'.length ∧ ∀ (i : Nat) (v : Value), l[i]? = some v → ∃ v', l'[i]? = some v' ∧ VRel β v v'

theorem LRel.mono {β β' : Ren} (h : β.le β') {l l' : List Value} (r : LRel β l l') : LRel β' l l' :=
  ⟨r.1, fun i v e => let ⟨v', a, b⟩ := r.2 i v e; ⟨v', a, b.mono h⟩⟩
theorem LRel.nil (β : Ren) : LRel β [] [] := ⟨rfl, fun i v e => by simp at e⟩
theorem LRel.cons {β : Ren} {v v' : Value} {l l' : List Value} (h : VRel β v v') (r : LRel β l l') : LRel β (v :: l) (v' :: l') := by
  refine ⟨by simp [r.1], fun i u e => ?_⟩
  cases i with
  | zero => simp at e; subst e; exact ⟨v', by simp, h⟩
  | succ i => simpa using r.2 i u (by simpa using e)
theorem LRel.cons_inv {β : Ren} {v : Value} {l l' : List Value} (r : LRel β (v :: l) l') : ∃ v' m, l' = v' :: m ∧ VRel β v v' ∧ LRel β l m := by
  obtain ⟨h1, h2⟩ := r
  cases l' with
  | nil => simp at h1
  | cons v' m =>
    obtain ⟨u, e, k⟩ := h2 0 v (by simp)
    simp at e; subst e
    exact ⟨v', m, rfl, k, by simpa using h1, fun i x e => by simpa using h2 (i + 1) x (by simpa using e)⟩
theorem LRel.nil_inv {β : Ren} {l' : List Value} (r : LRel β [] l') : l' = [] := by
  have := r.1; cases l' <;> simp_all
theorem LRel.append {β : Ren} : ∀ {l l' m m' : List Value}, LRel β l l' → LRel β m m' → LRel β (l ++ m) (l' ++ m')
  | [], l', m, m', h, k => by rw [LRel.nil_inv h]; exact k
  | x :: l, l', m, m', h, k => by
    obtain ⟨x', n, rfl, a, b⟩ := LRel.cons_inv h
    exact LRel.cons a (LRel.append b k)
theorem LRel.map {β : Ren} {α : Type} (f g : α → Value) : ∀ (l : List α), (∀ x, x ∈ l → VRel β (f x) (g x)) → LRel β (l.map f) (l.map g)
  | [], _ => LRel.nil β
  | x :: l, h => LRel.cons (h x (by simp)) (LRel.map f g l fun y hy => h y (by simp [hy]))
theorem LRel.drop {β : Ren} : ∀ (n : Nat) {l l' : List Value}, LRel β l l' → LRel β (l.drop n) (l'.drop n)
  | 0, l, l', h => h
  | n + 1, [], l', h => by rw [LRel.nil_inv h]; simpa using LRel.nil β
  | n + 1, x :: l, l', h => by
    obtain ⟨x', m, rfl, _, b⟩ := LRel.cons_inv h
    simpa using LRel.drop n b
theorem LRel.take {β : Ren} : ∀ (n : Nat) {l l' : List Value}, LRel β l l' → LRel β (l.take n) (l'.take n)
  | 0, l, l', h => by simpa using LRel.nil β
  | n + 1, [], l', h => by rw [LRel.nil_inv h]; simpa using LRel.nil β
  | n + 1, x :: l, l', h => by
    obtain ⟨x', m, rfl, a, b⟩ := LRel.cons_inv h
    simpa using LRel.cons a (LRel.take n b)
theorem LRel.get {β : Ren} {l l' : List Value} (h : LRel β l l') {i : Nat} {v : Value} (e : l[i]? = some v) : ∃ v', l'[i]? = some v' ∧ VRel β v v' := h.2 i v e

theorem toList_getD {a : Array Value} {i : Nat} (h : i < a.size) : a.toList[i]? = some (a.getD i undef) := by
  simp [Array.getD, h]

theorem LRel.of_arr {β : Ren} {a a' : Array Value} (h : a.size = a'.size) (k : ∀ i, i < a.size → VRel β (a.getD i undef) (a'.getD i undef)) : LRel β a.toList a'.toList := by
  refine ⟨by simpa using h, fun i v e => ?_⟩
  have hi : i < a.size := by
    rcases Nat.lt_or_ge i a.size with h | h
    · exact h
    · rw [List.getElem?_eq_none (by simpa using h)] at e; cases e
  rw [toList_getD hi] at e
  cases e
  exact ⟨_, toList_getD (by omega), k i hi⟩
theorem LRel.to_arr {β : Ren} {l l' : List Value} (h : LRel β l l') : (⟨l⟩ : Array Value).size = (⟨l'⟩ : Array Value).size ∧ ∀ i, i < (⟨l⟩ : Array Value).size → VRel β ((⟨l⟩ : Array Value).getD i undef) ((⟨l'⟩ : Array Value).getD i undef) := by
  refine ⟨by simpa using h.1, fun i hi => ?_⟩
  have hi' : i < l.length := by simpa using hi
  obtain ⟨v', e, r⟩ := h.2 i l[i] (List.getElem?_eq_getElem hi')
  have h2 : i < l'.length := by have := h.1; omega
  rw [List.getElem?_eq_getElem h2] at e
  cases e
  simpa [Array.getD, hi', h2] using r
theorem VRel.agg_of {β : Ren} {l l' : List Value} (h : LRel β l l') : VRel β (.agg ⟨l⟩) (.agg ⟨l'⟩) := .agg h.to_arr.1 h.to_arr.2
theorem VRel.tuple_of {β : Ren} {l l' : List Value} (h : LRel β l l') : VRel β (.tuple ⟨l⟩) (.tuple ⟨l'⟩) := .tuple h.to_arr.1 h.to_arr.2
theorem VRel.agg_inv {β : Ren} {a : Array Value} {v' : Value} (h : VRel β (.agg a) v') : ∃ a', v' = .agg a' ∧ LRel β a.toList a'.toList := by
  cases h with | agg s k => exact ⟨_, rfl, LRel.of_arr s k⟩
theorem VRel.tuple_inv {β : Ren} {a : Array Value} {v' : Value} (h : VRel β (.tuple a) v') : ∃ a', v' = .tuple a' ∧ LRel β a.toList a'.toList := by
  cases h with | tuple s k => exact ⟨_, rfl, LRel.of_arr s k⟩
theorem VRel.undef (β : Ren) : VRel β Go.undef Go.undef := VRel.tuple_of (LRel.nil β)
/-- A value's cells. -/
theorem VRel.cells {β : Ren} {v v' : Value} (h : VRel β v v') : LRel β v.cells.toList v'.cells.toList := by
  have one : ∀ {u u' : Value}, VRel β u u' → LRel β [u] [u'] := fun h => LRel.cons h (LRel.nil β)
  cases h with
  | agg s k => exact LRel.of_arr s k
  | bool b => exact one (.bool b)
  | int k n => exact one (.int k n)
  | string s => exact one (.string s)
  | pnil => exact one .pnil
  | ptr e => exact one (.ptr e)
  | snil => exact one .snil
  | slice e a b c d => exact one (.slice e a b c d)
  | mnil => exact one .mnil
  | map e => exact one (.map e)
  | func f a b c d => exact one (.func f a b c d)
  | nilFunc => exact one .nilFunc
  | nilIface => exact one .nilIface
  | iface h => exact one (.iface h)
  | tuple a b => exact one (.tuple a b)
theorem VRel.oneCell {β : Ren} {v v' : Value} (h : VRel β v v') : oneCell v' = Go.Sp.oneCell v := by cases h <;> rfl
theorem oneCell_eq (v : Value) : oneCell v = v.oneCell' := by cases v <;> rfl

/-- A value that holds no address. -/
def plainV : Nat → Value → Bool
  | 0, _ => false
  | n + 1, v => match v with
    | .bool _ | .int _ _ | .string _ | .pointer none | .map none | .nilFunc | .nilIface => true
    | .slice none 0 0 => true
    | .func (.func _) a c => a.toList.all (plainV n) && c.toList.all (plainV n)
    | .agg a | .tuple a => a.toList.all (plainV n)
    | _ => false

theorem LRel.self {β : Ren} : ∀ (l : List Value), (∀ v, v ∈ l → VRel β v v) → LRel β l l
  | [], _ => LRel.nil β
  | _ :: l, h => LRel.cons (h _ (by simp)) (LRel.self l fun u hu => h u (by simp [hu]))

theorem VRel.plain {β : Ren} : ∀ (n : Nat) (v : Value), plainV n v = true → VRel β v v := by
  intro n
  induction n with
  | zero => intro v h; simp [plainV] at h
  | succ n ih =>
    intro v h
    have arr : ∀ a : Array Value, a.toList.all (plainV n) = true → LRel β a.toList a.toList := fun a ha =>
      LRel.self _ fun u hu => ih u (List.all_eq_true.1 ha u hu)
    unfold plainV at h
    split at h
    · exact .bool _
    · exact .int _ _
    · exact .string _
    · exact .pnil
    · exact .mnil
    · exact .nilFunc
    · exact .nilIface
    · exact .snil
    · rename_i f a c
      simp only [Bool.and_eq_true] at h
      have h1 := (arr a h.1).to_arr
      have h2 := (arr c h.2).to_arr
      exact .func (.func _) h1.1 h1.2 h2.1 h2.2
    · rename_i a; exact VRel.agg_of (arr a h)
    · rename_i a; exact VRel.tuple_of (arr a h)
    · cases h
end
end Go.Sp

-- Sp.HRel
/-! The heap of the executor against the model's world. -/
namespace Go.Sp
noncomputable section
open Go.RowKit (Below)

def AObj.own : AObj → Bool
  | .cells o _ _ => o
  | .map o _ _ => o
  | .loop _ => true

/-- The slots of a frame. -/
structure ERel (β : Ren) (nt : Nat) (env : T Value) (tmps : Array Value) : Prop where
  size : tmps.size = nt
  all : ∀ t, VRel β (look env (.tmp t)) (tmps.getD t undef)

theorem ERel.mono {β β' : Ren} (h : β.le β') {nt : Nat} {env : T Value} {tmps : Array Value} (r : ERel β nt env tmps) : ERel β' nt env tmps :=
  ⟨r.size, fun t => (r.all t).mono h⟩

/-- What is asked of code: its constants hold no address, and it names known variables alone. -/
def okOperand (G : Nat) : Operand → Bool
  | .tmp _ => true
  | .const v => plainV 10 v
  | .global g => Nat.blt g G
  | .func _ => true
def okOper (G : Nat) (o : Oper) : Bool := o.op.operands.toList.all (okOperand G)

structure LoopRel (β : Ren) (ok : Code → Prop) (l : ALoop) (L : Loop) : Prop where
  state : L.state = l.state
  pending : L.pending = l.pending
  fn : L.fn = l.fn
  params : L.params = ⟨l.params⟩
  assign : L.assign = l.assign
  body : L.body = l.body
  env : ERel β l.nt l.env L.tmps
  ok1 : ok l.assign
  ok2 : ok l.body

def EntryRel (β : Ren) (e e' : MapEntry) : Prop := e'.born = e.born ∧ VRel β e.key e'.key ∧ VRel β e.val e'.val

def MRel (β : Ren) (l l' : List MapEntry) : Prop := l.length = l'.length ∧ ∀ (i : Nat) (e : MapEntry), l[i]? = some e → ∃ e', l'[i]? = some e' ∧ EntryRel β e e'

theorem EntryRel.mono {β β' : Ren} (h : β.le β') {e e' : MapEntry} (r : EntryRel β e e') : EntryRel β' e e' := ⟨r.1, r.2.1.mono h, r.2.2.mono h⟩
theorem MRel.mono {β β' : Ren} (h : β.le β') {l l' : List MapEntry} (r : MRel β l l') : MRel β' l l' :=
  ⟨r.1, fun i e k => let ⟨e', a, b⟩ := r.2 i e k; ⟨e', a, b.mono h⟩⟩

inductive ORel (β : Ren) (ok : FuncId → Nat → Code → Prop) : AObj → Obj → Tgt → Prop
  | cells {own : Bool} {g : Nat} {c : List Value} {c' : Array Value} {e : TypeId} {fz : Nat × Nat} {t : Tgt} :
      (own = true → fz = (0, 0) ∧ g = t.esz) → c'.size = t.csz → t.delta + c.length ≤ c'.size →
      (∀ (i : Nat) (v : Value), c[i]? = some v → ∃ v', c'[t.delta + i]? = some v' ∧ VRel β v v') → ORel β ok (.cells own g c) (.cells c' e fz) t
  | map {own : Bool} {es : List MapEntry} {es' : Array MapEntry} {clock : Nat} {t : Tgt} : MRel β es es'.toList → ORel β ok (.map own es clock) (.map es' clock) t
  | loop {l : ALoop} {L : Loop} {t : Tgt} : LoopRel β (ok l.fn l.nt) l L → ORel β ok (.loop l) (.loop L) t

theorem LoopRel.mono {β β' : Ren} (h : β.le β') {ok : Code → Prop} {l : ALoop} {L : Loop} (r : LoopRel β ok l L) : LoopRel β' ok l L :=
  ⟨r.state, r.pending, r.fn, r.params, r.assign, r.body, r.env.mono h, r.ok1, r.ok2⟩

theorem ORel.mono {β β' : Ren} (h : β.le β') {ok : FuncId → Nat → Code → Prop} {o : AObj} {x : Obj} {t : Tgt} (r : ORel β ok o x t) : ORel β' ok o x t := by
  cases r with
  | cells a b c d => exact .cells a b c fun i v e => let ⟨v', p, q⟩ := d i v e; ⟨v', p, q.mono h⟩
  | map a => exact .map (a.mono h)
  | loop a => exact .loop (a.mono h)

structure HRel (ok : FuncId → Nat → Code → Prop) (β : Ren) (H : Heap) (w : World) (base : Nat) : Prop where
  dom : ∀ b t, β b = some t → b < H.next
  lt : ∀ b o, H.get b = some o → b < H.next
  live : ∀ b o, H.get b = some o → ∃ t x, β b = some t ∧ w.heap[t.blk]? = some x ∧ ORel β ok o x t
  own : ∀ b o t, H.get b = some o → o.own = true → β b = some t → base ≤ t.blk
  sep : ∀ b o b' o' t t', H.get b = some o → o.own = true → H.get b' = some o' → β b = some t → β b' = some t' → t.blk = t'.blk → b = b'
  le : base ≤ w.heap.size

/-- What a piece of work leaves. -/
structure Post (β : Ren) (H : Heap) (w : World) (β' : Ren) (H' : Heap) (w' : World) : Prop where
  ext : β.le β'
  next : H.next ≤ H'.next
  fresh : ∀ b t, β' b = some t → β b = some t ∨ H.next ≤ b
  blk : ∀ b t, β' b = some t → β b = none → w.heap.size ≤ t.blk ∨ ∃ b0 o0 t0, H.get b0 = some o0 ∧ o0.own = true ∧ β b0 = some t0 ∧ t0.blk = t.blk
  old : ∀ b o', b < H.next → H'.get b = some o' → ∃ o, H.get b = some o ∧ (o'.own = true → o.own = true)
  keep : ∀ k, k < w.heap.size → (∀ b o t, H.get b = some o → o.own = true → β b = some t → t.blk ≠ k) → w'.heap[k]? = w.heap[k]?
  os : w'.os = w.os
  tape : w'.tape = w.tape
  output : w'.output = w.output
  size : w.heap.size ≤ w'.heap.size

theorem Post.refl (β : Ren) (H : Heap) (w : World) : Post β H w β H w :=
  ⟨Ren.le_refl β, Nat.le_refl _, fun _ _ h => .inl h, fun _ _ h k => (by rw [h] at k; cases k), fun _ o' _ h => ⟨o', h, fun k => k⟩, fun _ _ _ => rfl, rfl, rfl, rfl, Nat.le_refl _⟩

theorem Post.trans {ok : FuncId → Nat → Code → Prop} {base : Nat} {β : Ren} {H : Heap} {w : World} {β1 : Ren} {H1 : Heap} {w1 : World} {β2 : Ren} {H2 : Heap} {w2 : World}
    (hr : HRel ok β H w base) (a : Post β H w β1 H1 w1) (b : Post β1 H1 w1 β2 H2 w2) : Post β H w β2 H2 w2 := by
  -- what H1 owns lies behind w, or where H owned
  have owned : ∀ b1 o1 t1, H1.get b1 = some o1 → o1.own = true → β1 b1 = some t1 → w.heap.size ≤ t1.blk ∨ ∃ b0 o0 t0, H.get b0 = some o0 ∧ o0.own = true ∧ β b0 = some t0 ∧ t0.blk = t1.blk := by
    intro b1 o1 t1 h1 h2 h3
    cases hb : β b1 with
    | none => exact a.blk b1 t1 h3 hb
    | some t0 =>
      have e := a.ext b1 t0 hb
      rw [h3] at e; cases e
      obtain ⟨o, k1, k2⟩ := a.old b1 o1 (hr.dom b1 _ hb) h1
      exact .inr ⟨b1, o, _, k1, k2 h2, hb, rfl⟩
  refine ⟨Ren.le_trans a.ext b.ext, Nat.le_trans a.next b.next, ?_, ?_, ?_, ?_, b.os.trans a.os, b.tape.trans a.tape, b.output.trans a.output, Nat.le_trans a.size b.size⟩
  · intro x t h
    rcases b.fresh x t h with h | h
    · exact a.fresh x t h
    · exact .inr (Nat.le_trans a.next h)
  · intro x t h hn
    cases hb : β1 x with
    | some t1 =>
      have e := b.ext x t1 hb
      rw [h] at e; cases e
      exact a.blk x _ hb hn
    | none =>
      rcases b.blk x t h hb with h1 | ⟨b0, o0, t0, h1, h2, h3, h4⟩
      · exact .inl (Nat.le_trans a.size h1)
      · rcases owned b0 o0 t0 h1 h2 h3 with h5 | h5
        · exact .inl (h4 ▸ h5)
        · rw [← h4]; exact .inr h5
  · intro x o' hx h
    obtain ⟨o1, h1, k1⟩ := b.old x o' (Nat.lt_of_lt_of_le hx a.next) h
    obtain ⟨o2, h2, k2⟩ := a.old x o1 hx h1
    exact ⟨o2, h2, fun k => k2 (k1 k)⟩
  · intro k hk hn
    rw [b.keep k (Nat.lt_of_lt_of_le hk a.size) ?_, a.keep k hk hn]
    intro b1 o1 t1 h1 h2 h3 e
    rcases owned b1 o1 t1 h1 h2 h3 with h5 | ⟨b0, o0, t0, h5, h6, h7, h8⟩
    · omega
    · exact hn b0 o0 t0 h5 h6 h7 (h8.trans e)

theorem Post.below {ok : FuncId → Nat → Code → Prop} {base : Nat} {β : Ren} {H : Heap} {w : World} {β' : Ren} {H' : Heap} {w' : World}
    (hr : HRel ok β H w base) (a : Post β H w β' H' w') : Below base w w' :=
  ⟨a.os, a.tape, a.output, a.size, fun k hk => a.keep k (Nat.lt_of_lt_of_le hk hr.le) fun b o t h1 h2 h3 e => by have := hr.own b o t h1 h2 h3; omega⟩

/-- Only the heap counts. -/
theorem HRel.congr {ok : FuncId → Nat → Code → Prop} {β : Ren} {H : Heap} {w w' : World} {base : Nat} (h : HRel ok β H w base) (e : w'.heap = w.heap) : HRel ok β H w' base :=
  ⟨h.dom, h.lt, by rw [e]; exact h.live, h.own, h.sep, by rw [e]; exact h.le⟩
theorem Post.congr {β : Ren} {H : Heap} {w : World} {β' : Ren} {H' : Heap} {w' w'' : World} (h : Post β H w β' H' w')
    (e : w''.heap = w'.heap) (e1 : w''.os = w'.os) (e2 : w''.tape = w'.tape) (e3 : w''.output = w'.output) : Post β H w β' H' w'' :=
  ⟨h.ext, h.next, h.fresh, h.blk, h.old, by rw [e]; exact h.keep, e1.trans h.os, e2.trans h.tape, e3.trans h.output, by rw [e]; exact h.size⟩

theorem Heap.get_push (H : Heap) (o : AObj) (b : Nat) : (H.push o).get b = if b = H.next then some o else H.get b := T.get_set _ _ _ _
theorem Heap.get_upd (H : Heap) (b' : Nat) (o : AObj) (b : Nat) : (H.upd b' o).get b = if b = b' then some o else H.get b := T.get_set _ _ _ _
theorem Heap.get_kill (H : Heap) (b' : Nat) (b : Nat) : (H.kill b').get b = if b = b' then none else H.get b := T.get_put _ _ _ _
theorem Heap.next_push (H : Heap) (o : AObj) : (H.push o).next = H.next + 1 := rfl
theorem Heap.next_upd (H : Heap) (b : Nat) (o : AObj) : (H.upd b o).next = H.next := rfl
theorem Heap.next_kill (H : Heap) (b : Nat) : (H.kill b).next = H.next := rfl

theorem HRel.lt_size {ok : FuncId → Nat → Code → Prop} {β : Ren} {H : Heap} {w : World} {base : Nat} (h : HRel ok β H w base) {b : Nat} {o : AObj} {t : Tgt}
    (h1 : H.get b = some o) (h2 : β b = some t) : t.blk < w.heap.size := by
  obtain ⟨t', x, e1, e2, _⟩ := h.live b o h1
  rw [h2] at e1; cases e1
  exact (Array.getElem?_eq_some_iff.1 e2).1

theorem HRel.free {ok : FuncId → Nat → Code → Prop} {β : Ren} {H : Heap} {w : World} {base : Nat} (h : HRel ok β H w base) : β H.next = none := by
  cases e : β H.next with
  | none => rfl
  | some t => have := h.dom _ _ e; omega

/-- A new block. -/
theorem HRel.push {ok : FuncId → Nat → Code → Prop} {β : Ren} {H : Heap} {w : World} {base : Nat} (h : HRel ok β H w base) (o : AObj) (x : Obj) (t : Tgt)
    (ht : t.blk = w.heap.size) (hr : ORel β ok o x t) : HRel ok (β.with H.next t) (H.push o) (w.alloc x) base := by
  have le : β.le (β.with H.next t) := Ren.le_with t h.free
  have hne : ∀ {b o}, H.get b = some o → b ≠ H.next := fun e => by have := h.lt _ _ e; omega
  have other : ∀ {b o}, H.get b = some o → (β.with H.next t) b = β b := fun e => Ren.with_other _ _ (hne e)
  refine ⟨?_, ?_, ?_, ?_, ?_, ?_⟩
  · intro b u e
    by_cases hb : b = H.next
    · subst hb; simp [Heap.next_push]
    · rw [Ren.with_other _ _ hb] at e
      have := h.dom _ _ e; simp [Heap.next_push]; omega
  · intro b o' e
    rw [Heap.get_push] at e
    split at e
    · simp [Heap.next_push]; omega
    · have := h.lt _ _ e; simp [Heap.next_push]; omega
  · intro b o' e
    rw [Heap.get_push] at e
    split at e
    · rename_i hb; subst hb; cases e
      exact ⟨t, x, Ren.with_same _ _ _, by rw [ht]; show (w.heap.push x)[w.heap.size]? = _; simp, hr.mono le⟩
    · obtain ⟨u, y, e1, e2, e3⟩ := h.live _ _ e
      refine ⟨u, y, le _ _ e1, ?_, e3.mono le⟩
      have := (Array.getElem?_eq_some_iff.1 e2).1
      show (w.heap.push x)[u.blk]? = _
      rw [Array.getElem?_push, if_neg (by omega)]; exact e2
  · intro b o' u e k eu
    rw [Heap.get_push] at e
    split at e
    · rename_i hb; subst hb
      rw [Ren.with_same] at eu; cases eu
      rw [ht]; exact h.le
    · rw [other e] at eu
      exact h.own _ _ _ e k eu
  · intro b o' b' o'' u u' e k e' eu eu' eq
    rw [Heap.get_push] at e e'
    split at e
    · rename_i hb
      split at e'
      · rename_i hb'; omega
      · rw [other e'] at eu'
        have := h.lt_size e' eu'
        rw [hb, Ren.with_same] at eu; cases eu
        omega
    · rw [other e] at eu
      split at e'
      · rename_i hb'
        have := h.lt_size e eu
        rw [hb', Ren.with_same] at eu'; cases eu'
        omega
      · rw [other e'] at eu'
        exact h.sep _ _ _ _ _ _ e k e' eu eu' eq
  · rw [World.size_alloc]; have := h.le; omega

theorem Post.push {ok : FuncId → Nat → Code → Prop} {β : Ren} {H : Heap} {w : World} {base : Nat} (h : HRel ok β H w base) (o : AObj) (x : Obj) (t : Tgt)
    (ht : t.blk = w.heap.size) : Post β H w (β.with H.next t) (H.push o) (w.alloc x) := by
  refine ⟨Ren.le_with t h.free, by simp [Heap.next_push], ?_, ?_, ?_, ?_, rfl, rfl, rfl, by simp⟩
  · intro b u e
    by_cases hb : b = H.next
    · exact .inr (by omega)
    · rw [Ren.with_other _ _ hb] at e; exact .inl e
  · intro b u e hn
    by_cases hb : b = H.next
    · subst hb; rw [Ren.with_same] at e; cases e; exact .inl (by omega)
    · rw [Ren.with_other _ _ hb, hn] at e; cases e
  · intro b o' hb e
    rw [Heap.get_push, if_neg (by omega)] at e
    exact ⟨o', e, fun k => k⟩
  · intro k hk _
    show (w.heap.push x)[k]? = _
    rw [Array.getElem?_push, if_neg (by omega)]

/-- A block's object, put anew. -/
def setObjW (w : World) (r : Nat) (x : Obj) : World := { w with heap := w.heap.setIfInBounds r x }
@[simp] theorem size_setObjW (w : World) (r : Nat) (x : Obj) : (setObjW w r x).heap.size = w.heap.size := by simp [setObjW]

theorem HRel.upd {ok : FuncId → Nat → Code → Prop} {β : Ren} {H : Heap} {w : World} {base : Nat} (h : HRel ok β H w base) {b : Nat} {o : AObj} {t : Tgt}
    (hb : H.get b = some o) (ho : o.own = true) (ht : β b = some t) (o2 : AObj) (x2 : Obj) (hr : ORel β ok o2 x2 t) : HRel ok β (H.upd b o2) (setObjW w t.blk x2) base := by
  have hlt := h.lt_size hb ht
  have hbn := h.lt _ _ hb
  refine ⟨h.dom, ?_, ?_, ?_, ?_, by simpa using h.le⟩
  · intro b' o' e
    rw [Heap.get_upd] at e
    split at e
    · rename_i e2; subst e2; exact hbn
    · exact h.lt _ _ e
  · intro b' o' e
    rw [Heap.get_upd] at e
    split at e
    · rename_i e2; subst e2; cases e
      exact ⟨t, x2, ht, by simp [setObjW, hlt], hr⟩
    · rename_i hne
      obtain ⟨u, y, e1, e2, e3⟩ := h.live _ _ e
      refine ⟨u, y, e1, ?_, e3⟩
      have hd : t.blk ≠ u.blk := fun eq => hne (h.sep _ _ _ _ _ _ hb ho e ht e1 eq).symm
      simp only [setObjW, Array.getElem?_setIfInBounds]
      rw [if_neg hd]; exact e2
  · intro b' o' u e k eu
    rw [Heap.get_upd] at e
    split at e
    · rename_i e2; subst e2
      exact h.own _ _ _ hb ho eu
    · exact h.own _ _ _ e k eu
  · intro b1 o1 b2 o2' u1 u2 e1 k e2 eu1 eu2 eq
    rw [Heap.get_upd] at e1 e2
    split at e1
    · rename_i h1
      split at e2
      · rename_i h2; omega
      · rw [h1]; rw [h1] at eu1
        exact h.sep _ _ _ _ _ _ hb ho e2 eu1 eu2 eq
    · split at e2
      · rename_i h2
        rw [h2] at eu2 ⊢
        exact h.sep _ _ _ _ _ _ e1 k hb eu1 eu2 eq
      · exact h.sep _ _ _ _ _ _ e1 k e2 eu1 eu2 eq

theorem Post.upd {ok : FuncId → Nat → Code → Prop} {β : Ren} {H : Heap} {w : World} {base : Nat} (_h : HRel ok β H w base) {b : Nat} {o : AObj} {t : Tgt}
    (hb : H.get b = some o) (ho : o.own = true) (ht : β b = some t) (o2 : AObj) (x2 : Obj) : Post β H w β (H.upd b o2) (setObjW w t.blk x2) := by
  refine ⟨Ren.le_refl β, Nat.le_refl _, fun _ _ h => .inl h, fun _ _ h k => (by rw [h] at k; cases k), ?_, ?_, rfl, rfl, rfl, by simp⟩
  · intro b' o' _ e
    rw [Heap.get_upd] at e
    split at e
    · rename_i e2; subst e2; exact ⟨o, hb, fun _ => ho⟩
    · exact ⟨o', e, fun k => k⟩
  · intro k hk hn
    have := hn _ _ _ hb ho ht
    simp only [setObjW, Array.getElem?_setIfInBounds]
    rw [if_neg this]

/-- A block that is gone. -/
theorem HRel.kill {ok : FuncId → Nat → Code → Prop} {β : Ren} {H : Heap} {w : World} {base : Nat} (h : HRel ok β H w base) (b : Nat) : HRel ok β (H.kill b) w base := by
  have sub : ∀ {b' o'}, (H.kill b).get b' = some o' → H.get b' = some o' := by
    intro b' o' e
    rw [Heap.get_kill] at e
    split at e
    · cases e
    · exact e
  exact ⟨h.dom, fun b' o' e => h.lt _ _ (sub e), fun b' o' e => h.live _ _ (sub e), fun b' o' t e k et => h.own _ _ _ (sub e) k et,
    fun b1 o1 b2 o2 t1 t2 e1 k e2 a b c => h.sep _ _ _ _ _ _ (sub e1) k (sub e2) a b c, h.le⟩
theorem Post.kill {β : Ren} {H : Heap} {w : World} (b : Nat) : Post β H w β (H.kill b) w := by
  refine ⟨Ren.le_refl β, Nat.le_refl _, fun _ _ h => .inl h, fun _ _ h k => (by rw [h] at k; cases k), ?_, fun _ _ _ => rfl, rfl, rfl, rfl, Nat.le_refl _⟩
  intro b' o' _ e
  rw [Heap.get_kill] at e
  split at e
  · cases e
  · exact ⟨o', e, fun k => k⟩
end
end Go.Sp

-- Sp.Ops1
/-! What the executor knows of types is so; loads, parts, comparisons. -/
namespace Go.Sp
noncomputable section

def aggD : TypeDesc → Bool
  | .struct _ | .array _ _ => true
  | _ => false

theorem add_none (b o n : Nat) : (⟨b, o, none⟩ : Addr).add n = ⟨b, o + n, none⟩ := by
  unfold Addr.add
  split
  · rename_i h; subst h; rfl
  · rfl

structure TyOk (P : Program) (t : TypeId) (tv : TV) : Prop where
  under : P.underlying t = some tv.desc
  info : ∃ i, P.info? t = some i ∧ i.size = tv.size ∧ i.bytes = tv.bytes ∧ i.zero = some tv.zero
  agg : tv.agg = aggD tv.desc
  zero : plainV 10 tv.zero = true
  eq1 : tv.plainEq = true → P.eqGuardType P.depth t = false
  eq2 : tv.plainEq = true → ∀ fs, tv.desc = .struct fs → P.stoodInHeld t = false
  flds : ∀ fs, tv.desc = .struct fs → ∀ f ∈ fs, ∃ i, P.info? f.type = some i

section
variable {P : Program} {V : View} (hV : ∀ t tv, V.ty.get t = some tv → TyOk P t tv) (w : World)
include hV

theorem ty_under {t : TypeId} {tv : TV} (h : V.ty.get t = some tv) : (underlying t).run P w = .ok tv.desc w := run_underlying (hV t tv h).under w
theorem ty_size {t : TypeId} {tv : TV} (h : V.ty.get t = some tv) : (sizeOf t).run P w = .ok tv.size w := by
  obtain ⟨i, h1, h2, _⟩ := (hV t tv h).info
  simp [sizeOf, typeInfo, h1, h2]
theorem ty_zero {t : TypeId} {tv : TV} (h : V.ty.get t = some tv) : (zeroValue t).run P w = .ok tv.zero w := by
  obtain ⟨i, h1, _, _, h4⟩ := (hV t tv h).info
  simp [zeroValue, typeInfo, h1, h4]
theorem ty_info {t : TypeId} {tv : TV} (h : V.ty.get t = some tv) : ∃ i, (typeInfo t).run P w = .ok i w ∧ i.bytes = tv.bytes := by
  obtain ⟨i, h1, _, h3, _⟩ := (hV t tv h).info
  exact ⟨i, by simp [typeInfo, h1], h3⟩
theorem ty_isAgg {t : TypeId} {tv : TV} (h : V.ty.get t = some tv) : (isAgg t).run P w = .ok tv.agg w := by
  rw [(hV t tv h).agg]
  unfold isAgg
  simp only [Sem.run_bind, ty_under hV w h, Result.andThen_ok]
  cases tv.desc <;> rfl
theorem ty_zeroRel (β : Ren) {t : TypeId} {tv : TV} (h : V.ty.get t = some tv) : VRel β tv.zero tv.zero := VRel.plain 10 _ (hV t tv h).zero

variable {ok : FuncId → Nat → Code → Prop} {β : Ren} {H : Heap} {base : Nat}

omit hV in
/-- A block of cells, as the world has it. -/
theorem HRel.row (h : HRel ok β H w base) {b : Nat} {own : Bool} {g : Nat} {c : List Value} (e : H.get b = some (.cells own g c)) {t : Tgt} (et : β b = some t) :
    ∃ c' el fz, w.heap[t.blk]? = some (.cells c' el fz) ∧ (own = true → fz = (0, 0) ∧ g = t.esz) ∧ c'.size = t.csz ∧ t.delta + c.length ≤ c'.size ∧
      ∀ (i : Nat) (v : Value), c[i]? = some v → ∃ v', c'[t.delta + i]? = some v' ∧ VRel β v v' := by
  obtain ⟨t', x, e1, e2, e3⟩ := h.live _ _ e
  rw [et] at e1; cases e1
  cases e3 with
  | cells a b c d => exact ⟨_, _, _, e2, a, b, c, d⟩

omit hV in
theorem HRel.mapAt (h : HRel ok β H w base) {b : Nat} {own : Bool} {es : List MapEntry} {clock : Nat} (e : H.get b = some (.map own es clock)) {t : Tgt} (et : β b = some t) :
    ∃ es', w.heap[t.blk]? = some (.map es' clock) ∧ MRel β es es'.toList := by
  obtain ⟨t', x, e1, e2, e3⟩ := h.live _ _ e
  rw [et] at e1; cases e1
  cases e3 with
  | map a => exact ⟨_, e2, a⟩

omit hV in
theorem HRel.loopAt (h : HRel ok β H w base) {b : Nat} {l : ALoop} (e : H.get b = some (.loop l)) {t : Tgt} (et : β b = some t) :
    ∃ L, w.heap[t.blk]? = some (.loop L) ∧ LoopRel β (ok l.fn l.nt) l L := by
  obtain ⟨t', x, e1, e2, e3⟩ := h.live _ _ e
  rw [et] at e1; cases e1
  cases e3 with
  | loop a => exact ⟨_, e2, a⟩

omit hV in
theorem cell_row {w : World} {b o : Nat} {c : Array Value} {e : TypeId} {fz : Nat × Nat} (h : w.heap[b]? = some (.cells c e fz)) : w.cell? ⟨b, o, none⟩ = c[o]? := by
  simp [World.cell?, h]

omit hV in
/-- A cell that the executor reads, the model reads. -/
theorem HRel.cell (h : HRel ok β H w base) {b o : Nat} {v : Value} (e : H.cell ⟨b, o, none⟩ = some v) {t : Tgt} (et : β b = some t) :
    ∃ v', w.cell? ⟨t.blk, o + t.delta, none⟩ = some v' ∧ VRel β v v' := by
  unfold Heap.cell at e
  simp only at e
  split at e
  · rename_i own g c hb
    obtain ⟨c', el, fz, hw, _, _, _, hd⟩ := h.row w hb et
    obtain ⟨v', e1, e2⟩ := hd o v e
    exact ⟨v', by rw [cell_row hw, Nat.add_comm]; exact e1, e2⟩
  · cases e

omit hV in
theorem HRel.cellsN (h : HRel ok β H w base) {b o n : Nat} {l : List Value} (e : H.cellsN ⟨b, o, none⟩ n = some l) {t : Tgt} (et : β b = some t) :
    ∃ l', (loadCells ⟨t.blk, o + t.delta, none⟩ n).run P w = .ok ⟨l'⟩ w ∧ LRel β l l' ∧ l.length = n ∧ (∀ (j : Nat) (v : Value), l'[j]? = some v → w.cell? ((⟨t.blk, o + t.delta, none⟩ : Addr).add j) = some v) := by
  unfold Heap.cellsN at e
  simp only at e
  split at e
  · rename_i own g c hb
    split at e
    · rename_i hle
      simp at hle
      cases e
      obtain ⟨c', el, fz, hw, _, hsz, hlen, hd⟩ := h.row w hb et
      have hl : ((c.drop o).take n).length = n := by simp; omega
      refine ⟨(c'.toList.drop (o + t.delta)).take n, ?_, ?_, hl, ?_⟩
      · have hl' : ((c'.toList.drop (o + t.delta)).take n).length = n := by simp; omega
        have := run_loadCells_list (P := P) w ⟨t.blk, o + t.delta, none⟩ ((c'.toList.drop (o + t.delta)).take n) (by
          intro j v hj
          rw [add_none, cell_row hw]
          rw [List.getElem?_take] at hj
          split at hj
          · simpa [List.getElem?_drop] using hj
          · cases hj)
        rw [hl'] at this
        exact this
      · refine ⟨by simp; omega, fun i v hi => ?_⟩
        rw [List.getElem?_take] at hi
        split at hi
        · rename_i hin
          rw [List.getElem?_drop] at hi
          obtain ⟨v', e1, e2⟩ := hd (o + i) v hi
          refine ⟨v', ?_, e2⟩
          rw [List.getElem?_take, if_pos hin, List.getElem?_drop]
          rw [show o + t.delta + i = t.delta + (o + i) by omega]
          simpa using e1
        · cases hi
      · intro j v hj
        rw [add_none, cell_row hw]
        rw [List.getElem?_take] at hj
        split at hj
        · simpa [List.getElem?_drop] using hj
        · cases hj
    · cases e
  · cases e

theorem sim_loadVar (h : HRel ok β H w base) {t : TypeId} {b o : Nat} {v : Value} (e : V.loadVar H t ⟨b, o, none⟩ = some v) {u : Tgt} (eu : β b = some u) :
    ∃ v', (loadVar t ⟨u.blk, o + u.delta, none⟩).run P w = .ok v' w ∧ VRel β v v' := by
  unfold View.loadVar at e
  split at e
  · cases e
  · rename_i tv ht
    simp only [loadVar, Sem.run_bind, ty_isAgg hV w ht, Result.andThen_ok]
    split at e
    · rename_i hagg
      split at e
      · rename_i l hl
        cases e
        obtain ⟨l', h1, h2, _, _⟩ := h.cellsN (P := P) w hl eu
        exact ⟨.agg ⟨l'⟩, by simp [hagg, ty_size hV w ht, h1], VRel.agg_of h2⟩
      · cases e
    · rename_i hagg
      obtain ⟨v', h1, h2⟩ := h.cell w e eu
      exact ⟨v', by simp [hagg, h1], h2⟩

theorem part_run {t : TypeId} {cs cs' : Array Value} {off : Nat} {v : Value} (e : V.part t cs off = some v) (r : LRel β cs.toList cs'.toList) :
    ∃ v', (part t cs' off).run P w = .ok v' w ∧ VRel β v v' := by
  unfold View.part at e
  split at e
  · cases e
  · rename_i tv ht
    simp only [part, Sem.run_bind, ty_isAgg hV w ht, Result.andThen_ok]
    split at e
    · rename_i hagg
      cases e
      refine ⟨.agg (cs'.extract off (off + tv.size)), by simp [hagg, ty_size hV w ht], ?_⟩
      have : cs'.extract off (off + tv.size) = ⟨(cs'.toList.drop off).take tv.size⟩ := by
        apply Array.ext'
        simp [List.take_drop]
      rw [this]
      exact VRel.agg_of ((r.drop off).take tv.size)
    · rename_i hagg
      obtain ⟨v', e1, e2⟩ := r.get e
      refine ⟨v', ?_, e2⟩
      have : cs'[off]? = some v' := by simpa using e1
      simp [hagg, this]
end
end
end Go.Sp

-- Sp.Ops2
/-! Comparisons and keys. -/
namespace Go.Sp
noncomputable section

section
variable {P : Program} {V : View} (hV : ∀ t tv, V.ty.get t = some tv → TyOk P t tv) (w : World) {β : Ren}
include hV

theorem ty_cellsOf {t : TypeId} {tv : TV} (h : V.ty.get t = some tv) : P.cellsOf t = tv.size := by
  obtain ⟨i, h1, h2, _⟩ := (hV t tv h).info
  simp [Program.cellsOf, h1, h2]

theorem eq_run : ∀ n, (∀ d t x y b x' y', n ≤ d → V.eqT n t x y = some b → VRel β x x' → VRel β y y' → (Op.equalIn d t x' y').run P w = .ok b w) ∧
    (∀ d fs xs ys b xs' ys', n ≤ d → V.eqFields n fs xs ys = some b → LRel β xs.toList xs'.toList → LRel β ys.toList ys'.toList → (Op.eqFields d xs' ys' fs).run P w = .ok b w) ∧
    (∀ d e ev, V.ty.get e = some ev → ∀ len i xs ys b xs' ys', n ≤ d → V.eqElems n e ev.size len i xs ys = some b → LRel β xs.toList xs'.toList → LRel β ys.toList ys'.toList →
      (Op.eqItems d e (P.cellsOf e) xs' ys' (List.range' i len)).run P w = .ok b w) := by
  intro n
  induction n with
  | zero =>
    refine ⟨?_, ?_, ?_⟩
    · intro d t x y b x' y' _ h; simp [View.eqT] at h
    · intro d fs xs ys b xs' ys' _ h; simp [View.eqFields] at h
    · intro d e ev _ len i xs ys b xs' ys' _ h; simp [View.eqElems] at h
  | succ n ih =>
    obtain ⟨ih1, ih2, ih3⟩ := ih
    refine ⟨?_, ?_, ?_⟩
    · intro d t x y b x' y' hd h hx hy
      obtain ⟨d, rfl⟩ : ∃ m, d = m + 1 := ⟨d - 1, by omega⟩
      unfold View.eqT at h
      split at h
      · cases h
      · rename_i tv ht
        have hu := (hV t tv ht).under
        have hp1 := (hV t tv ht).eq2
        split at h
        case h_1 =>
          have hdsc : tv.desc = .bool := by assumption
          cases hx; cases hy; cases h
          rw [hdsc] at hu
          simp [Op.equalIn, run_underlying hu]
        case h_2 =>
          obtain ⟨k0, hdsc⟩ : ∃ k0, tv.desc = .int k0 := ⟨_, by assumption⟩
          cases hx; cases hy
          rw [hdsc] at hu
          split at h
          · rename_i hk
            cases h
            simp [Op.equalIn, run_underlying hu, of_decide_eq_true hk]
          · cases h
        case h_3 =>
          have hdsc : tv.desc = .string := by assumption
          cases hx; cases hy; cases h
          rw [hdsc] at hu
          simp [Op.equalIn, run_underlying hu]
        case h_4 =>
          obtain ⟨k0, hdsc⟩ : ∃ k0, tv.desc = .pointer k0 := ⟨_, by assumption⟩
          cases hx; cases h
          rw [hdsc] at hu
          cases hy <;> simp [Op.equalIn, run_underlying hu]
        case h_5 =>
          obtain ⟨k0, hdsc⟩ : ∃ k0, tv.desc = .pointer k0 := ⟨_, by assumption⟩
          cases hx; cases hy; cases h
          rw [hdsc] at hu
          simp [Op.equalIn, run_underlying hu]
        case h_6 =>
          obtain ⟨k0, hdsc⟩ : ∃ k0, tv.desc = .slice k0 := ⟨_, by assumption⟩
          cases hx; cases h
          rw [hdsc] at hu
          cases hy <;> simp [Op.equalIn, run_underlying hu]
        case h_7 =>
          obtain ⟨k0, hdsc⟩ : ∃ k0, tv.desc = .slice k0 := ⟨_, by assumption⟩
          cases hx; cases hy; cases h
          rw [hdsc] at hu
          simp [Op.equalIn, run_underlying hu]
        case h_8 =>
          obtain ⟨k0, k1, hdsc⟩ : ∃ k0 k1, tv.desc = .map k0 k1 := ⟨_, _, by assumption⟩
          cases hx; cases h
          rw [hdsc] at hu
          cases hy <;> simp [Op.equalIn, run_underlying hu]
        case h_9 =>
          obtain ⟨k0, k1, hdsc⟩ : ∃ k0 k1, tv.desc = .map k0 k1 := ⟨_, _, by assumption⟩
          cases hx; cases hy; cases h
          rw [hdsc] at hu
          simp [Op.equalIn, run_underlying hu]
        case h_10 =>
          obtain ⟨k0, k1, k2, hdsc⟩ : ∃ k0 k1 k2, tv.desc = .func k0 k1 k2 := ⟨_, _, _, by assumption⟩
          cases hx; cases hy; cases h
          rw [hdsc] at hu
          simp [Op.equalIn, run_underlying hu]
        case h_11 =>
          obtain ⟨k0, k1, k2, hdsc⟩ : ∃ k0 k1 k2, tv.desc = .func k0 k1 k2 := ⟨_, _, _, by assumption⟩
          cases hx; cases hy; cases h
          rw [hdsc] at hu
          simp [Op.equalIn, run_underlying hu]
        case h_12 =>
          obtain ⟨k0, k1, k2, hdsc⟩ : ∃ k0 k1 k2, tv.desc = .func k0 k1 k2 := ⟨_, _, _, by assumption⟩
          cases hx; cases hy; cases h
          rw [hdsc] at hu
          simp [Op.equalIn, run_underlying hu]
        case h_13 fs xs ys hdsc =>
          obtain ⟨xs', rfl, rx⟩ := hx.agg_inv
          obtain ⟨ys', rfl, ry⟩ := hy.agg_inv
          split at h
          · rename_i hpe
            have hs := hp1 hpe fs hdsc
            rw [hdsc] at hu
            have hf : P.fieldsOf t = fs := by simp [Program.fieldsOf, hu]
            rw [run_equalIn_struct w d t xs' ys' (by rw [hf]; exact hu) hs, hf]
            exact ih2 d fs.toList xs ys b xs' ys' (by omega) h rx ry
          · cases h
        case h_14 len e xs ys hdsc =>
          obtain ⟨xs', rfl, rx⟩ := hx.agg_inv
          obtain ⟨ys', rfl, ry⟩ := hy.agg_inv
          split at h
          · split at h
            · rename_i ev hev
              rw [hdsc] at hu
              obtain ⟨i, hi, _⟩ := (hV e ev hev).info
              rw [run_equalIn_array w d xs' ys' hu hi, List.range_eq_range']
              exact ih3 d e ev hev len 0 xs ys b xs' ys' (by omega) h rx ry
            · cases h
          · cases h
        case h_15 => cases h
    · intro d fs xs ys b xs' ys' hd h rx ry
      cases fs with
      | nil => simp [View.eqFields] at h; subst h; simp [Op.eqFields]
      | cons f fs =>
        unfold View.eqFields at h
        split at h
        · cases h
        · rename_i hn
          have hn' : f.name ≠ "_" := by simpa using hn
          split at h
          · rename_i a c ha hc
            obtain ⟨a', pa, ra⟩ := part_run hV w ha rx
            obtain ⟨c', pc, rc⟩ := part_run hV w hc ry
            unfold Op.eqFields
            simp only [hn', ne_eq, not_false_eq_true, if_true, Sem.run_bind, pa, pc, Result.andThen_ok]
            split at h
            · rename_i he
              rw [ih1 d f.type a c true a' c' (by omega) he ra rc]
              simpa using ih2 d fs xs ys b xs' ys' (by omega) h rx ry
            · rename_i he
              cases h
              rw [ih1 d f.type a c false a' c' (by omega) he ra rc]
              simp
            · cases h
          · cases h
    · intro d e ev hev len i xs ys b xs' ys' hd h rx ry
      cases len with
      | zero => simp [View.eqElems] at h; subst h; simp [Op.eqItems]
      | succ len =>
        unfold View.eqElems at h
        rw [List.range'_succ]
        have hc := ty_cellsOf hV hev
        split at h
        · rename_i a c ha hcc
          obtain ⟨a', pa, ra⟩ := part_run hV w ha rx
          obtain ⟨c', pc, rc⟩ := part_run hV w hcc ry
          unfold Op.eqItems
          simp only [Sem.run_bind, hc, pa, pc, Result.andThen_ok]
          split at h
          · rename_i he
            rw [ih1 d e a c true a' c' (by omega) he ra rc]
            have := ih3 d e ev hev len (i + 1) xs ys b xs' ys' (by omega) h rx ry
            rw [hc] at this
            simpa using this
          · rename_i he
            cases h
            rw [ih1 d e a c false a' c' (by omega) he ra rc]
            simp
          · cases h
        · cases h

theorem equal_run {t : TypeId} {x y : Value} {b : Bool} {x' y' : Value} (h : V.eqT View.depth t x y = some b) (hx : VRel β x x') (hy : VRel β y y') :
    (Op.equal t x' y').run P w = .ok b w := (eq_run hV w View.depth).1 10000 t x y b x' y' (by decide) h hx hy

/-- A key is taken. -/
theorem key_run : ∀ n d t x x' (e : Bool), n ≤ d → V.keyT n t x = true → VRel β x x' → (Instr.checkKey e d t x').run P w = .ok () w := by
  intro n
  induction n with
  | zero => intro d t x x' e _ h; simp [View.keyT] at h
  | succ n ih =>
    intro d t x x' e hd h hx
    obtain ⟨d, rfl⟩ : ∃ m, d = m + 1 := ⟨d - 1, by omega⟩
    unfold View.keyT at h
    split at h
    · cases h
    · rename_i tv ht
      have hu := (hV t tv ht).under
      unfold Instr.checkKey
      simp only [Sem.run_bind, run_underlying hu, Result.andThen_ok]
      split at h
      case h_1 => have hdsc : tv.desc = .bool := by assumption
                  cases hx; rw [hdsc]; rfl
      case h_2 => obtain ⟨k0, hdsc⟩ : ∃ k0, tv.desc = .int k0 := ⟨_, by assumption⟩
                  cases hx; rw [hdsc]; rfl
      case h_3 => have hdsc : tv.desc = .string := by assumption
                  cases hx; rw [hdsc]; rfl
      case h_4 fs cs hdsc =>
        obtain ⟨cs', rfl, rc⟩ := hx.agg_inv
        rw [hdsc]
        simp only
        rw [← Array.forIn_toList]
        generalize fs.toList = L at h
        clear hdsc hu ht hx
        induction L with
        | nil => simp
        | cons f L ihL =>
          simp only [List.all_cons, Bool.and_eq_true] at h
          obtain ⟨h1, h2⟩ := h
          split at h1
          · rename_i p hp
            obtain ⟨p', pp, rp⟩ := part_run hV w hp rc
            have hk := ih d f.type p p' e (by omega) h1 rp
            simp only [List.forIn_cons, Sem.run_bind, Sem.run_ite]
            split
            · simp only [pp, hk, Result.andThen_ok, Sem.run_pure]
              simpa only [Sem.run_bind, Sem.run_pure] using ihL h2
            · simp only [Sem.run_pure, Result.andThen_ok]
              simpa only [Sem.run_bind, Sem.run_pure] using ihL h2
          · cases h1
      case h_5 len el cs hdsc =>
        obtain ⟨cs', rfl, rc⟩ := hx.agg_inv
        rw [hdsc]
        simp only
        split at h
        · rename_i ev hev
          simp only [Std.Legacy.Range.forIn_eq_forIn_range', Std.Legacy.Range.size, Nat.sub_zero, Nat.add_one_sub_one, Nat.div_one]
          rw [List.range_eq_range'] at h
          generalize List.range' 0 len = is at h
          clear hdsc hu ht hx
          induction is with
          | nil => simp
          | cons i is ihL =>
            simp only [List.all_cons, Bool.and_eq_true] at h
            obtain ⟨h1, h2⟩ := h
            split at h1
            · rename_i p hp
              obtain ⟨p', pp, rp⟩ := part_run hV w hp rc
              have hk := ih d el p p' e (by omega) h1 rp
              simp only [List.forIn_cons, Sem.run_bind, ty_size hV w hev, pp, hk, Result.andThen_ok, Sem.run_pure]
              simpa only [Sem.run_bind, Sem.run_pure] using ihL h2
            · cases h1
        · cases h
      case h_6 => cases h

theorem checkKey_run {t : TypeId} {x x' : Value} (e : Bool) (h : V.keyT View.depth t x = true) (hx : VRel β x x') : (Instr.checkKey e 10000 t x').run P w = .ok () w :=
  key_run hV w View.depth 10000 t x x' e (by decide) h hx

omit hV in
theorem MRel.nil : MRel β [] [] := ⟨rfl, fun i e h => by simp at h⟩
omit hV in
theorem MRel.cons {e e' : MapEntry} {l l' : List MapEntry} (h : EntryRel β e e') (r : MRel β l l') : MRel β (e :: l) (e' :: l') := by
  refine ⟨by simp [r.1], fun i x k => ?_⟩
  cases i with
  | zero => simp at k; subst k; exact ⟨e', by simp, h⟩
  | succ i => simpa using r.2 i x (by simpa using k)
omit hV in
theorem MRel.cons_inv {e : MapEntry} {l l' : List MapEntry} (r : MRel β (e :: l) l') : ∃ e' m, l' = e' :: m ∧ EntryRel β e e' ∧ MRel β l m := by
  obtain ⟨h1, h2⟩ := r
  cases l' with
  | nil => simp at h1
  | cons v' m =>
    obtain ⟨u, k1, k⟩ := h2 0 e (by simp)
    simp at k1; subst k1
    exact ⟨_, m, rfl, k, by simpa using h1, fun i x k => by simpa using h2 (i + 1) x (by simpa using k)⟩
omit hV in
theorem MRel.nil_inv {l' : List MapEntry} (r : MRel β [] l') : l' = [] := by
  have := r.1; cases l' <;> simp_all
omit hV in
theorem MRel.append : ∀ {l l' m m' : List MapEntry}, MRel β l l' → MRel β m m' → MRel β (l ++ m) (l' ++ m')
  | [], l', m, m', h, k => by rw [MRel.nil_inv h]; exact k
  | x :: l, l', m, m', h, k => by
    obtain ⟨x', n, rfl, a, b⟩ := MRel.cons_inv h
    exact MRel.cons a (MRel.append b k)

/-- The quick search of the model is the slow one, where it tells. -/
theorem findNow_asking {t : TypeId} {kind : TypeDesc} (hu : P.underlying t = some kind) (k : Value) : ∀ (es : List MapEntry) (i : Nat) (r : Option (Nat × Value)), Instr.findNow kind k es i = some r →
    (Instr.findAsking t k es i).run P w = .ok r w
  | [], i, r, h => by simp [Instr.findNow] at h; subst h; simp [Instr.findAsking]
  | e :: es, i, r, h => by
    have _ := hV
    unfold Instr.findNow at h
    have he : ∀ y b, Instr.sameNow kind k y = some b → (Op.equal t k y).run P w = .ok b w := by
      intro y b hb
      unfold Instr.sameNow at hb
      split at hb
      · split at hb
        · rename_i hk; subst hk; cases hb; exact run_equalIn_int w 9999 t _ _ _ _ hu
        · cases hb
      · cases hb
        rw [beq_toListBytes]; exact run_equalIn_string w 9999 t _ _ hu
      · cases hb; exact run_equalIn_bool' w 9999 t _ _ hu
      · cases hb
    split at h
    · rename_i hs; cases h
      simp [Instr.findAsking, he _ true hs]
    · rename_i hs
      simp [Instr.findAsking, he _ false hs, findNow_asking hu k es (i + 1) r h]
    · cases h

theorem findAsking_run {t : TypeId} {k k' : Value} (hk : VRel β k k') : ∀ (es : List MapEntry) (i : Nat) (r : Option (Nat × Value)) (es' : List MapEntry), V.findK t k es i = some r → MRel β es es' →
    ∃ r', (Instr.findAsking t k' es' i).run P w = .ok r' w ∧ (r = none → r' = none) ∧ (∀ j v, r = some (j, v) → ∃ v' e e', r' = some (j, v') ∧ VRel β v v' ∧ i ≤ j ∧ es[j - i]? = some e ∧ es'[j - i]? = some e' ∧ V.eqT View.depth t k e.key = some true ∧ e.val = v ∧ e'.val = v')
  | [], i, r, es', h, hr => by
    rw [MRel.nil_inv hr]
    simp [View.findK] at h
    subst h
    exact ⟨none, by simp [Instr.findAsking], fun _ => rfl, fun _ _ h => (by cases h)⟩
  | e :: es, i, r, es', h, hr => by
    obtain ⟨e', m, rfl, he, hm⟩ := MRel.cons_inv hr
    unfold View.findK at h
    split at h
    · rename_i heq
      cases h
      refine ⟨some (i, e'.val), ?_, fun h => (by cases h), fun j v hj => ?_⟩
      · simp [Instr.findAsking, equal_run hV w heq hk he.2.1]
      · cases hj
        exact ⟨e'.val, e, e', rfl, he.2.2, Nat.le_refl _, by simp, by simp, heq, rfl, rfl⟩
    · rename_i heq
      obtain ⟨r', h1, h2, h3⟩ := findAsking_run hk es (i + 1) r m h hm
      refine ⟨r', by simp [Instr.findAsking, equal_run hV w heq hk he.2.1, h1], h2, fun j v hj => ?_⟩
      obtain ⟨v', x, x', a, b, c, d1, d2, d3, d4, d5⟩ := h3 j v hj
      have hji : j - i = (j - (i + 1)) + 1 := by omega
      exact ⟨v', x, x', a, b, by omega, by rw [hji]; simpa using d1, by rw [hji]; simpa using d2, d3, d4, d5⟩
    · cases h

theorem findKey_run {t : TypeId} {k k' : Value} (hk : VRel β k k') {es es' : List MapEntry} {r : Option (Nat × Value)} {tv : TV} (ht : V.ty.get t = some tv) (h : V.findK t k es 0 = some r) (hr : MRel β es es') :
    ∃ r', (Instr.findKey t k' es').run P w = .ok r' w ∧ (r = none → r' = none) ∧ (∀ j v, r = some (j, v) → ∃ v' e e', r' = some (j, v') ∧ VRel β v v' ∧ es[j]? = some e ∧ es'[j]? = some e' ∧ V.eqT View.depth t k e.key = some true ∧ e.val = v ∧ e'.val = v') := by
  obtain ⟨r', h1, h2, h3⟩ := findAsking_run hV w hk es 0 r es' h hr
  refine ⟨r', ?_, h2, fun j v hj => ?_⟩
  · unfold Instr.findKey
    simp only [Sem.run_bind, ty_under hV w ht, Result.andThen_ok]
    split
    · rename_i r2 hn
      have := findNow_asking hV w (hV t tv ht).under k' es' 0 r2 hn
      rw [h1] at this
      cases this
      rfl
    · exact h1
  · obtain ⟨v', e, e', a, b, _, d1, d2, d3, d4, d5⟩ := h3 j v hj
    exact ⟨v', e, e', a, b, by simpa using d1, by simpa using d2, d3, d4, d5⟩
end
end
end Go.Sp

-- Sp.Ops3
/-! Stores. -/
namespace Go.Sp
noncomputable section

theorem putFrom_nil (c : List Value) (k : Nat) : Heap.putFrom c k [] = c := by simp [Heap.putFrom]
theorem putFrom_cons (c : List Value) (k : Nat) (v : Value) (vs : List Value) (h : k < c.length) : Heap.putFrom (c.set k v) (k + 1) vs = Heap.putFrom c k (v :: vs) := by
  unfold Heap.putFrom
  rw [List.take_set, List.drop_set]
  have h1 : (c.take (k + 1)).set k v = c.take k ++ [v] := by
    rw [List.take_succ_eq_append_getElem h]
    rw [List.set_append_right _ _ (by simp; omega)]
    simp [Nat.min_eq_left (Nat.le_of_lt h)]
  rw [h1]
  rw [if_pos (by omega)]
  simp [Nat.add_assoc, Nat.add_comm 1]
theorem putFrom_length (c : List Value) (k : Nat) (vs : List Value) (h : k + vs.length ≤ c.length) : (Heap.putFrom c k vs).length = c.length := by
  simp [Heap.putFrom]; omega
theorem putFrom_get (c : List Value) (k : Nat) (vs : List Value) (h : k + vs.length ≤ c.length) (i : Nat) : (Heap.putFrom c k vs)[i]? = if k ≤ i ∧ i < k + vs.length then vs[i - k]? else c[i]? := by
  unfold Heap.putFrom
  by_cases h1 : i < k
  · rw [if_neg (by omega), List.append_assoc, List.getElem?_append_left (by simp; omega), List.getElem?_take, if_pos h1]
  · rw [List.append_assoc, List.getElem?_append_right (by simp; omega)]
    have hk : (c.take k).length = k := by simp; omega
    rw [hk]
    by_cases h2 : i < k + vs.length
    · rw [if_pos ⟨by omega, h2⟩, List.getElem?_append_left (by omega)]
    · rw [if_neg (by omega), List.getElem?_append_right (by omega), List.getElem?_drop]
      congr 1; omega

theorem setObjW_self {w : World} {b : Nat} {x : Obj} (h : w.heap[b]? = some x) : setObjW w b x = w := by
  obtain ⟨hlt, he⟩ := Array.getElem?_eq_some_iff.1 h
  unfold setObjW
  have : w.heap.setIfInBounds b x = w.heap := by
    apply Array.ext (by simp)
    intro i h1 h2
    rw [Array.getElem_setIfInBounds]
    split
    · rename_i hb; subst hb; exact he.symm
    · rfl
  rw [this]
theorem setObjW_twice (w : World) (b : Nat) (x y : Obj) : setObjW (setObjW w b x) b y = setObjW w b y := by
  have : (w.heap.setIfInBounds b x).setIfInBounds b y = w.heap.setIfInBounds b y := by
    apply Array.ext_getElem?
    intro i
    simp only [Array.getElem?_setIfInBounds]
    split <;> simp
  simp [setObjW, this]
theorem setObjW_get {w : World} {b : Nat} {x y : Obj} (h : w.heap[b]? = some y) : (setObjW w b x).heap[b]? = some x := by
  obtain ⟨hlt, _⟩ := Array.getElem?_eq_some_iff.1 h
  simp [setObjW, hlt]

theorem setCell_row {w : World} {b k : Nat} {c : Array Value} {e : TypeId} {fz : Nat × Nat} (h : w.heap[b]? = some (.cells c e fz)) (v : Value) :
    w.setCell ⟨b, k, none⟩ v = setObjW w b (.cells (c.setIfInBounds k v) e fz) := by
  obtain ⟨hlt, he⟩ := Array.getElem?_eq_some_iff.1 h
  unfold World.setCell setObjW
  congr 1
  apply Array.ext_getElem?
  intro i
  simp only [Array.getElem?_modify, Array.getElem?_setIfInBounds]
  by_cases hb : b = i
  · subst hb; simp [hlt, he]
  · simp [hb]

section
variable {P : Program}

theorem run_storeCells : ∀ (vs : List Value) (w : World) (b off i : Nat) (c : Array Value) (e : TypeId), w.heap[b]? = some (.cells c e (0, 0)) → off + i + vs.length ≤ c.size → vs.all oneCell = true →
    (storeCells ⟨b, off, none⟩ vs i).run P w = .ok () (setObjW w b (.cells ⟨Heap.putFrom c.toList (off + i) vs⟩ e (0, 0)))
  | [], w, b, off, i, c, e, h, _, _ => by
    rw [putFrom_nil]
    simp only [storeCells, Sem.run_pure]
    rw [setObjW_self (by simpa using h)]
  | v :: vs, w, b, off, i, c, e, h, hle, hall => by
    simp only [List.all_cons, Bool.and_eq_true] at hall
    simp only [List.length_cons] at hle
    have hcell : w.cell? ⟨b, off + i, none⟩ = some c[off + i] := by rw [cell_row h]; simp
    have hfz : w.frozen? ⟨b, off + i, none⟩ = false := by simp [World.frozen?, h]
    simp only [storeCells, Sem.run_bind, add_none]
    rw [run_store P w _ v _ (by rw [← oneCell_eq]; exact hall.1), hcell]
    simp only [hfz, Bool.false_eq_true, if_false, Result.andThen_ok]
    rw [setCell_row h]
    have h2 : (setObjW w b (.cells (c.setIfInBounds (off + i) v) e (0, 0))).heap[b]? = some (.cells (c.setIfInBounds (off + i) v) e (0, 0)) := setObjW_get h
    rw [run_storeCells vs _ b off (i + 1) _ e h2 (by simp; omega) hall.2, setObjW_twice]
    have : (c.setIfInBounds (off + i) v).toList = c.toList.set (off + i) v := by simp
    rw [this, show off + (i + 1) = (off + i) + 1 by omega, putFrom_cons _ _ _ _ (by simp; omega)]
end

section
variable {P : Program} {ok : FuncId → Nat → Code → Prop} {β : Ren} {H : Heap} {w : World} {base : Nat}

/-- What is stored here is stored there. -/
theorem sim_storeN (h : HRel ok β H w base) {b o : Nat} {vs vs' : List Value} {H' : Heap} (e : H.storeN ⟨b, o, none⟩ vs = some H') (hv : LRel β vs vs') {t : Tgt} (et : β b = some t) :
    ∃ w', (storeCells ⟨t.blk, o + t.delta, none⟩ vs').run P w = .ok () w' ∧ HRel ok β H' w' base ∧ Post β H w β H' w' ∧ H'.next = H.next := by
  unfold Heap.storeN at e
  simp only at e
  split at e
  · rename_i g c hb
    split at e
    · rename_i hle
      simp only [Bool.and_eq_true] at hle
      obtain ⟨hle, hall⟩ := hle
      simp at hle
      cases e
      obtain ⟨c', el, fz, hw, hfz, hsz, hlen, hd⟩ := h.row w hb et
      obtain ⟨hfz1, hg⟩ := hfz rfl
      subst hfz1
      have hvl := hv.1
      have hall' : vs'.all oneCell = true := by
        rw [List.all_eq_true] at hall ⊢
        intro x hx
        obtain ⟨i, hi, rfl⟩ := List.getElem_of_mem hx
        obtain ⟨y, e1, e2⟩ := hv.2 i vs[i] (List.getElem?_eq_getElem (by omega))
        rw [List.getElem?_eq_getElem hi] at e1
        cases e1
        rw [e2.oneCell]
        exact hall _ (List.getElem_mem _)
      have hrun := run_storeCells (P := P) vs' w t.blk (o + t.delta) 0 c' el hw (by omega) hall'
      refine ⟨_, hrun, h.upd hb rfl et _ _ ?_, Post.upd h hb rfl et _ _, rfl⟩
      refine .cells (fun _ => ⟨rfl, hg⟩) ?_ ?_ ?_
      · rw [← hsz]
        have := putFrom_length c'.toList (o + t.delta + 0) vs' (by simp; omega)
        simpa using this
      · have h1 := putFrom_length c'.toList (o + t.delta + 0) vs' (by simp; omega)
        have h2 := putFrom_length c o vs (by omega)
        simp at h1 ⊢
        omega
      · intro i v hi
        rw [putFrom_get c o vs (by omega)] at hi
        have key := putFrom_get c'.toList (o + t.delta + 0) vs' (by simp; omega) (t.delta + i)
        have e3 : (⟨Heap.putFrom c'.toList (o + t.delta + 0) vs'⟩ : Array Value)[t.delta + i]? = (Heap.putFrom c'.toList (o + t.delta + 0) vs')[t.delta + i]? := by simp
        rw [e3, key]
        split at hi
        · rename_i hr
          rw [if_pos (by omega)]
          obtain ⟨v', e1, e2⟩ := hv.2 _ _ hi
          exact ⟨v', by rw [← e1]; congr 1; omega, e2⟩
        · rename_i hr
          rw [if_neg (by omega)]
          obtain ⟨v', e1, e2⟩ := hd i v hi
          exact ⟨v', by simpa using e1, e2⟩
    · cases e
  · cases e
end

section
variable {P : Program} {V : View} (hV : ∀ t tv, V.ty.get t = some tv → TyOk P t tv) {ok : FuncId → Nat → Code → Prop} {β : Ren} {H : Heap} {w : World} {base : Nat}
include hV

theorem sim_storeVar (h : HRel ok β H w base) {t : TypeId} {b o : Nat} {v v' : Value} {H' : Heap} (e : V.storeVar H t ⟨b, o, none⟩ v = some H') (hv : VRel β v v') {u : Tgt} (eu : β b = some u) :
    ∃ w', (storeVar t ⟨u.blk, o + u.delta, none⟩ v').run P w = .ok () w' ∧ HRel ok β H' w' base ∧ Post β H w β H' w' ∧ H'.next = H.next := by
  unfold View.storeVar at e
  split at e
  · cases e
  · rename_i tv ht
    split at e
    · rename_i hs
      have hs' : v.cells.size = tv.size := by simpa using hs
      have hc := hv.cells
      have hs2 : v'.cells.size = tv.size := by have := hc.1; simp at this; omega
      obtain ⟨w', h1, h2, h3, h4⟩ := sim_storeN (P := P) h e hc eu
      refine ⟨w', ?_, h2, h3, h4⟩
      unfold storeVar
      simp only [Sem.run_bind, ty_size hV w ht, Result.andThen_ok, hs2, ne_eq, not_true_eq_false, if_false]
      simpa using h1
    · cases e
end
end
end Go.Sp

-- Sp.Ops4
/-! Operations that only compute. -/
namespace Go.Sp
noncomputable section

/-- What an operation gives, here and there. -/
def Gives (ok : FuncId → Nat → Code → Prop) (β : Ren) (H : Heap) (w : World) (base : Nat) (r : Result Next) (v : Value) (H' : Heap) : Prop :=
  ∃ β' w' v', (r = .ok (.value v') w' ∨ (r = .ok .skip w' ∧ v' = undef)) ∧ HRel ok β' H' w' base ∧ VRel β' v v' ∧ Post β H w β' H' w'

section
variable {P : Program} {V : View} (hV : ∀ t tv, V.ty.get t = some tv → TyOk P t tv) {ok : FuncId → Nat → Code → Prop} {β : Ren} {H : Heap} {w : World} {base : Nat}

theorem Gives.same (h : HRel ok β H w base) {s : Sem Value} {v v' : Value} (hr : s.run P w = .ok v' w) (hv : VRel β v v') :
    Gives ok β H w base ((do pure (Next.value (← s)) : Sem Next).run P w) v H :=
  ⟨β, w, v', .inl (by simp [hr]), h, hv, Post.refl β H w⟩

theorem wrap_bits (op : BinOp) (k : IntKind) (a b c : Int) (h : View.bits op k a b = some c) : (Op.intBits op k a b).run P w = .ok (.int k c) w := by
  unfold View.bits at h
  cases op <;> simp at h <;> subst h <;> simp [Op.intBits]

theorem sim_intOp {op : BinOp} {k : IntKind} {a b : Int} {v : Value} (e : View.intOp op k a b = some v) (hs : op ≠ .shl ∧ op ≠ .shr) (t : TypeId) :
    (binOp op t (.int k a) (.int k b)).run P w = .ok v w ∧ VRel β v v := by
  have hk : ∀ s : Sem Value, (if k ≠ k then stuck "BinOp: operands of different kinds" else s) = s := fun s => by simp
  cases op <;> simp only [View.intOp] at e
  case shl => exact absurd rfl hs.1
  case shr => exact absurd rfl hs.2
  case add => cases e; exact ⟨by simp [binOp, Op.intArith], .int _ _⟩
  case sub => cases e; exact ⟨by simp [binOp, Op.intArith], .int _ _⟩
  case mul => cases e; exact ⟨by simp [binOp, Op.intArith], .int _ _⟩
  case quo =>
    split at e
    · cases e
    · rename_i hb; cases e
      have : b ≠ 0 := by simpa using hb
      exact ⟨by simp [binOp, Op.intDiv, this], .int _ _⟩
  case rem =>
    split at e
    · cases e
    · rename_i hb; cases e
      have : b ≠ 0 := by simpa using hb
      exact ⟨by simp [binOp, Op.intDiv, this], .int _ _⟩
  case and =>
    split at e
    · rename_i c hc; cases e
      exact ⟨by simp only [binOp, hk]; exact wrap_bits _ _ _ _ _ hc, .int _ _⟩
    · cases e
  case or =>
    split at e
    · rename_i c hc; cases e
      exact ⟨by simp only [binOp, hk]; exact wrap_bits _ _ _ _ _ hc, .int _ _⟩
    · cases e
  case xor =>
    split at e
    · rename_i c hc; cases e
      exact ⟨by simp only [binOp, hk]; exact wrap_bits _ _ _ _ _ hc, .int _ _⟩
    · cases e
  case andNot =>
    split at e
    · rename_i c hc; cases e
      exact ⟨by simp only [binOp, hk]; exact wrap_bits _ _ _ _ _ hc, .int _ _⟩
    · cases e
  case eql => cases e; exact ⟨by simp [binOp, Op.intCmp], .bool _⟩
  case neq => cases e; exact ⟨by simp [binOp, Op.intCmp], .bool _⟩
  case lss => cases e; exact ⟨by simp [binOp, Op.intCmp], .bool _⟩
  case leq => cases e; exact ⟨by simp [binOp, Op.intCmp], .bool _⟩
  case gtr => cases e; exact ⟨by simp [binOp, Op.intCmp], .bool _⟩
  case geq => cases e; exact ⟨by simp [binOp, Op.intCmp], .bool _⟩

theorem sim_shift {op : BinOp} {k k' : IntKind} {a b : Int} {v : Value} (e : View.shift op k a b = some v) (t : TypeId) (hs : op = .shl ∨ op = .shr) :
    (binOp op t (.int k a) (.int k' b)).run P w = .ok v w ∧ VRel β v v := by
  unfold View.shift at e
  split at e
  · cases e
  · rename_i hb
    have hb' : ¬ b < 0 := by simpa using hb
    rcases hs with rfl | rfl
    · cases e; exact ⟨by simp [binOp, Op.shift, hb', Nat.min_def], .int _ _⟩
    · cases e; exact ⟨by simp [binOp, Op.shift, hb', Nat.min_def], .int _ _⟩

theorem sim_stringOp {op : BinOp} {a b : ByteArray} {v : Value} (e : View.stringOp op a b = some v) (t : TypeId) (hs : op ≠ .shl ∧ op ≠ .shr) :
    (binOp op t (.string a) (.string b)).run P w = .ok v w ∧ VRel β v v := by
  have hx : binOp op t (.string a) (.string b) = Op.stringOp op a b := by cases op <;> rfl
  rw [hx]
  cases op <;> simp only [View.stringOp] at e <;> try cases e
  case add =>
    split at e
    · rename_i hle; cases e
      have hle' : a.size + b.size ≤ 9223372036854775807 := by simpa using hle
      have : ¬ ((a.size + b.size : Nat) : Int) > IntKind.i64.max := by
        have : IntKind.i64.max = 9223372036854775807 := by decide
        rw [this]; omega
      refine ⟨?_, .string _⟩
      simp only [Op.stringOp, if_neg this, Sem.run_pure]
    · cases e
  case eql => exact ⟨by simp [Op.stringOp], .bool _⟩
  case neq => exact ⟨by simp [Op.stringOp], .bool _⟩

include hV in
theorem sim_eql {t : TypeId} {x y : Value} {b : Bool} {x' y' : Value} (e : V.eqT View.depth t x y = some b) (hx : VRel β x x') (hy : VRel β y y')
    (h1 : ∀ k n m, ¬ (x = .int k n ∧ ∃ k', y = .int k' m)) (h2 : ∀ s u, ¬ (x = .string s ∧ y = .string u)) (p q : Operand) (hn : x ≠ .nilIface) :
    (do eqGuard .eql t p q x' y'; binOp .eql t x' y' : Sem Value).run P w = .ok (.bool b) w ∧ (do eqGuard .neq t p q x' y'; binOp .neq t x' y' : Sem Value).run P w = .ok (.bool (!b)) w := by
  have he := equal_run hV w e hx hy
  -- what kinds of values there are
  replace e : V.eqT (99 + 1) t x y = some b := e
  unfold View.eqT at e
  · split at e
    · cases e
    · rename_i tv ht
      have hpe := (hV t tv ht).eq1
      split at e
      case h_1 => cases hx; cases hy; constructor <;> simp [eqGuard, binOp, he]
      case h_2 =>
        exfalso
        exact h1 _ _ _ ⟨rfl, _, rfl⟩
      case h_3 => exfalso; exact h2 _ _ ⟨rfl, rfl⟩
      case h_4 => cases hx; cases hy <;> constructor <;> simp [eqGuard, binOp, he]
      case h_5 => cases hx; cases hy; constructor <;> simp [eqGuard, binOp, he]
      case h_6 => cases hx; cases hy <;> constructor <;> simp [eqGuard, binOp, he]
      case h_7 => cases hx; cases hy; constructor <;> simp [eqGuard, binOp, he]
      case h_8 => cases hx; cases hy <;> constructor <;> simp [eqGuard, binOp, he]
      case h_9 => cases hx; cases hy; constructor <;> simp [eqGuard, binOp, he]
      case h_10 => cases hx; cases hy; constructor <;> simp [eqGuard, binOp, he]
      case h_11 => cases hx; cases hy; constructor <;> simp [eqGuard, binOp, he]
      case h_12 => cases hx; cases hy; constructor <;> simp [eqGuard, binOp, he]
      case h_13 =>
        obtain ⟨xs', rfl, rx⟩ := hx.agg_inv
        obtain ⟨ys', rfl, ry⟩ := hy.agg_inv
        split at e
        · rename_i hp
          constructor <;> simp [run_eqGuard_agg w _ t p q xs' ys' (hpe hp), binOp, he]
        · cases e
      case h_14 =>
        obtain ⟨xs', rfl, rx⟩ := hx.agg_inv
        obtain ⟨ys', rfl, ry⟩ := hy.agg_inv
        split at e
        · rename_i hp
          constructor <;> simp [run_eqGuard_agg w _ t p q xs' ys' (hpe hp), binOp, he]
        · cases e
      case h_15 => cases e
end
end
end Go.Sp

-- Sp.Ops5
/-! Addresses, slices, parts. -/
namespace Go.Sp
noncomputable section

theorem beq_ne {m l : Nat} (h : m ≠ l) : Nat.beq m l = false := by
  cases e : Nat.beq m l with
  | false => rfl
  | true => exact absurd (Nat.eq_of_beq_eq_true e) h
theorem beq_same (m : Nat) : Nat.beq m m = true := Nat.beq_refl m
theorem beq_eq {m l : Nat} (h : Nat.beq m l = true) : m = l := Nat.eq_of_beq_eq_true h

section
variable {P : Program} {V : View} (hV : ∀ t tv, V.ty.get t = some tv → TyOk P t tv) {ok : FuncId → Nat → Code → Prop} {β : Ren} {H : Heap} {w : World} {base : Nat}

/-- Both sides of a slice's bounds. -/
theorem bound_run {v : Value} {y n : Nat} (e : View.bound v y = some n) (y' : Nat) (hy : y ≤ y') (code : BoundsCode) :
    (Instr.sliceBound v y' code).run P w = .ok n w ∧ n ≤ y := by
  unfold View.bound at e
  split at e
  · rename_i k i
    split at e
    · rename_i h
      cases e
      simp only [Bool.and_eq_true, decide_eq_true_eq] at h
      obtain ⟨h0, h1⟩ := h
      have h1' : i.toNat ≤ y := by simpa using h1
      have h2 : 0 ≤ i ∧ i ≤ (y' : Int) := by omega
      refine ⟨?_, h1'⟩
      unfold Instr.sliceBound
      simp [asIntOf, h2]
    · cases e
  · cases e

def optRel (β : Ren) (a b : Option Value) : Prop := match a, b with
  | none, none => True
  | some x, some y => VRel β x y
  | _, _ => False

theorem bound_rel {v v' : Value} {y n : Nat} (e : View.bound v y = some n) (r : VRel β v v') : v' = v := by
  unfold View.bound at e
  split at e
  · cases r; rfl
  · cases e

theorem bounds_run (isS : Bool) {len cap : Nat} {lo hi mx lo' hi' mx' : Option Value} {l h m : Nat} (e : View.bounds len cap lo hi mx = some (l, h, m)) (cap' : Nat) (hc : cap ≤ cap') (_ : len ≤ cap')
    (r1 : optRel β lo lo') (r2 : optRel β hi hi') (r3 : optRel β mx mx') :
    ∃ m', (Instr.sliceBounds isS len cap' lo' hi' mx').run P w = .ok (l, h, m') w ∧ l ≤ h ∧ (mx = none → m' = cap' ∧ m = cap ∧ (hi = none → h = len) ∧ (hi ≠ none → h ≤ cap)) ∧ (mx ≠ none → m' = m ∧ h ≤ m ∧ m ≤ cap) := by
  unfold View.bounds at e
  split at e
  · cases e
  · rename_i m0 hm
    split at e
    · cases e
    · rename_i h0 hh
      split at e
      · cases e
      · rename_i l0 hl0
        cases e
        cases mx with
        | none =>
          simp at hm; subst hm
          cases mx' with
          | some _ => exact r3.elim
          | none =>
            have hlow : ∀ y', y' = h → (match lo' with | some v => Instr.sliceBound v y' BoundsCode.sliceB | none => pure 0).run P w = .ok l w ∧ l ≤ h := by
              intro y' hy'
              subst hy'
              cases lo with
              | none =>
                simp at hl0; subst hl0
                cases lo' with
                | some _ => exact r1.elim
                | none => exact ⟨rfl, Nat.zero_le _⟩
              | some v =>
                cases lo' with
                | none => exact r1.elim
                | some v' =>
                  simp only at hl0
                  have := bound_rel hl0 r1; subst this
                  exact bound_run hl0 _ (Nat.le_refl _) _
            cases hi with
            | none =>
              simp at hh; subst hh
              cases hi' with
              | some _ => exact r2.elim
              | none =>
                obtain ⟨a, b⟩ := hlow _ rfl
                refine ⟨cap', ?_, b, fun _ => ⟨rfl, rfl, fun _ => rfl, fun h => absurd rfl h⟩, fun h => absurd rfl h⟩
                unfold Instr.sliceBounds
                simp only [pure_bind, Option.isSome_none, Bool.false_eq_true, if_false]
                cases lo' with
                | none => simp only [Sem.run_pure, Result.ok.injEq] at a; obtain ⟨rfl, _⟩ := a; rfl
                | some v => simp only at a; simp [a]
            | some v =>
              cases hi' with
              | none => exact r2.elim
              | some v' =>
                simp only at hh
                have := bound_rel hh r2; subst this
                obtain ⟨a1, b1⟩ := bound_run (P := P) (w := w) hh cap' hc (if isS then .sliceAcap else .sliceAlen)
                obtain ⟨a, b⟩ := hlow _ rfl
                refine ⟨cap', ?_, b, fun _ => ⟨rfl, rfl, (fun h => by cases h), fun _ => b1⟩, fun h => absurd rfl h⟩
                unfold Instr.sliceBounds
                simp only [pure_bind, Sem.run_bind, Option.isSome_none, Bool.false_eq_true, if_false, a1, Result.andThen_ok]
                cases lo' with
                | none => simp only [Sem.run_pure, Result.ok.injEq] at a; obtain ⟨rfl, _⟩ := a; rfl
                | some v => simp only at a; simp [a]
        | some vm =>
          cases mx' with
          | none => exact r3.elim
          | some vm' =>
            simp only at hm
            have := bound_rel hm r3; subst this
            obtain ⟨a0, b0⟩ := bound_run (P := P) (w := w) hm cap' hc (if isS then .slice3Acap else .slice3Alen)
            cases hi with
            | none => simp at hh
            | some v =>
              cases hi' with
              | none => exact r2.elim
              | some v' =>
                simp only at hh
                have := bound_rel hh r2; subst this
                obtain ⟨a1, b1⟩ := bound_run (P := P) (w := w) hh m (Nat.le_refl _) .slice3B
                have hlow : (match lo' with | some v => Instr.sliceBound v h BoundsCode.slice3C | none => pure 0).run P w = .ok l w ∧ l ≤ h := by
                  cases lo with
                  | none =>
                    simp at hl0; subst hl0
                    cases lo' with
                    | some _ => exact r1.elim
                    | none => exact ⟨rfl, Nat.zero_le _⟩
                  | some v2 =>
                    cases lo' with
                    | none => exact r1.elim
                    | some v2' =>
                      simp only at hl0
                      have := bound_rel hl0 r1; subst this
                      exact bound_run hl0 _ (Nat.le_refl _) _
                obtain ⟨a, b⟩ := hlow
                refine ⟨m, ?_, b, (fun h => by cases h), fun _ => ⟨rfl, b1, b0⟩⟩
                unfold Instr.sliceBounds
                simp only [pure_bind, Sem.run_bind, Option.isSome_some, if_true, a0, a1, Result.andThen_ok]
                cases lo' with
                | none => simp only [Sem.run_pure, Result.ok.injEq] at a; obtain ⟨rfl, _⟩ := a; rfl
                | some v => simp only at a; simp [a]

theorem exactB_exactly (k : Nat) : View.exactB (View.exactly k) = true := by
  unfold View.exactB View.exactly; rw [show (2 * k + 1) % 2 = 1 by omega]; rfl
theorem exactB_atLeast (k : Nat) : View.exactB (View.atLeast k) = false := by
  unfold View.exactB View.atLeast; rw [show (2 * k) % 2 = 0 by omega]; rfl
theorem half_exactly (k : Nat) : View.exactly k / 2 = k := by simp [View.exactly]; omega
theorem half_atLeast (k : Nat) : View.atLeast k / 2 = k := by simp [View.atLeast]

theorem VRel.slice_exactly {b o len k o' : Nat} {t : Tgt} (e : β b = some t) (h : len ≤ k) (ho : o' = o + t.delta ∨ k = 0) :
    VRel β (.slice (some ⟨b, o, none⟩) len (View.exactly k)) (.slice (some ⟨t.blk, o', none⟩) len k) :=
  .slice e h (fun _ => (half_exactly k).symm) (fun h => by rw [exactB_exactly] at h; cases h) ho
theorem VRel.slice_atLeast {b o len k cap o' : Nat} {t : Tgt} (e : β b = some t) (h : len ≤ cap) (hk : k ≤ cap) (hs : o + t.delta + cap * t.esz ≤ t.csz) (ho : o' = o + t.delta ∨ cap = 0) :
    VRel β (.slice (some ⟨b, o, none⟩) len (View.atLeast k)) (.slice (some ⟨t.blk, o', none⟩) len cap) :=
  .slice e h (fun h => by rw [exactB_atLeast] at h; cases h) (fun _ => ⟨by rw [half_atLeast]; exact hk, hs⟩) ho

/-- A slice of the executor's, as the model has it. -/
theorem VRel.slice_inv {b o len c : Nat} {s : Option Nat} {v' : Value} (h : VRel β (.slice (some ⟨b, o, s⟩) len c) v') :
    s = none ∧ ∃ t cap o', β b = some t ∧ v' = .slice (some ⟨t.blk, o', none⟩) len cap ∧ len ≤ cap ∧ (View.exactB c = true → cap = c / 2) ∧
      (View.exactB c = false → c / 2 ≤ cap ∧ o + t.delta + cap * t.esz ≤ t.csz) ∧ (o' = o + t.delta ∨ cap = 0) := by
  cases h with
  | slice e a b c d => exact ⟨rfl, _, _, _, e, rfl, a, b, c, d⟩
theorem VRel.slice_none {len c : Nat} {v' : Value} (h : VRel β (.slice none len c) v') : len = 0 ∧ c = 0 ∧ v' = .slice none 0 0 := by
  cases h; exact ⟨rfl, rfl, rfl⟩
theorem VRel.ptr_inv {b o : Nat} {s : Option Nat} {v' : Value} (h : VRel β (.pointer (some ⟨b, o, s⟩)) v') : s = none ∧ ∃ t, β b = some t ∧ v' = .pointer (some ⟨t.blk, o + t.delta, none⟩) := by
  cases h with | ptr e => exact ⟨rfl, _, e, rfl⟩

include hV in
theorem sim_slice (hh : HRel ok β H w base) {t : TypeId} {x x' v : Value} {lo hi mx lo' hi' mx' : Option Value} (e : V.slice H t x lo hi mx = some v) (hx : VRel β x x')
    (r1 : optRel β lo lo') (r2 : optRel β hi hi') (r3 : optRel β mx mx') :
    ∃ v', (Instr.sliceAt t x' lo' hi' mx').run P w = .ok v' w ∧ VRel β v v' := by
  unfold View.slice at e
  split at e
  · cases e
  · rename_i tv ht
    have hu := (hV t tv ht).under
    split at e
    · -- an array
      rename_i n el a hdsc
      obtain ⟨b, o, s⟩ := a
      obtain ⟨rfl, u, hb, rfl⟩ := hx.ptr_inv
      rw [hdsc] at hu
      split at e
      · rename_i ev l h m hev hbo
        cases e
        obtain ⟨m', hrun, hlh, hn, hs⟩ := bounds_run (P := P) (w := w) false hbo n (Nat.le_refl _) (Nat.le_refl _) r1 r2 r3
        have hmm : m' = m ∧ h ≤ m := by
          cases mx with
          | none =>
            obtain ⟨a, b, c, d⟩ := hn rfl
            refine ⟨by omega, ?_⟩
            cases hi with
            | none => have := c rfl; omega
            | some _ => have := d (by simp); omega
          | some _ => obtain ⟨a, b, c⟩ := hs (by simp); exact ⟨a, by omega⟩
        obtain ⟨rfl, hle⟩ := hmm
        refine ⟨.slice (some (if m' = l then ⟨u.blk, o + u.delta, none⟩ else (⟨u.blk, o + u.delta, none⟩ : Addr).add (l * ev.size))) (h - l) (m' - l), ?_, ?_⟩
        · unfold Instr.sliceAt
          simp only [Sem.run_bind, run_underlying hu, Result.andThen_ok, Instr.sureAddr, Sem.run_pure, hrun, ty_size hV w hev]
        · by_cases hml : m' = l
          · subst hml
            simp only [beq_same, if_true]
            exact VRel.slice_exactly hb (by omega) (.inl rfl)
          · have : Nat.beq m' l = false := beq_ne hml
            simp only [this, hml, if_false, add_none, View.off]
            exact VRel.slice_exactly hb (by omega) (.inl (by omega))
      · cases e
    · -- a slice
      rename_i el a len c hdsc
      rw [hdsc] at hu
      split at e
      · rename_i ev hev
        unfold View.sliceSlice at e
        split at e
        · cases e
        · rename_i l h m hbo
          split at e
          · -- nil
            obtain ⟨rfl, rfl, rfl⟩ := hx.slice_none
            split at e
            · rename_i hm0
              cases e
              have hm0 : m = 0 := beq_eq hm0
              obtain ⟨m', hrun, hlh, hn, hs⟩ := bounds_run (P := P) (w := w) true hbo 0 (by simp) (Nat.le_refl _) r1 r2 r3
              have : h = 0 ∧ m' = 0 := by
                cases mx with
                | none =>
                  obtain ⟨a, b, c, d⟩ := hn rfl
                  refine ⟨?_, by omega⟩
                  cases hi with
                  | none => exact c rfl
                  | some _ => have := d (by simp); omega
                | some _ => obtain ⟨a, b, c⟩ := hs (by simp); exact ⟨by omega, by omega⟩
              obtain ⟨rfl, rfl⟩ := this
              have hl0 : l = 0 := by omega
              subst hl0
              refine ⟨.slice none 0 0, ?_, .snil⟩
              unfold Instr.sliceAt
              simp only [Sem.run_bind, run_underlying hu, Result.andThen_ok, Instr.slice, hrun, ty_size hV w hev]
              simp
            · cases e
          · rename_i a
            obtain ⟨b, o, s⟩ := a
            obtain ⟨rfl, u, cap, o', hb, rfl, hlc, hex, hun, hoff⟩ := hx.slice_inv
            have hc2 : c / 2 ≤ cap := by
              cases hE : View.exactB c with
              | true => have := hex hE; omega
              | false => exact (hun hE).1
            obtain ⟨m', hrun, hlh, hn, hs⟩ := bounds_run (P := P) (w := w) true hbo cap hc2 hlc r1 r2 r3
            have hhm : h ≤ m' := by
              cases mx with
              | none =>
                obtain ⟨a, b, c', d⟩ := hn rfl
                cases hi with
                | none => have := c' rfl; omega
                | some _ => have := d (by simp); omega
              | some _ => obtain ⟨a, b, c'⟩ := hs (by simp); omega
            have hmc : m' ≤ cap := by
              cases mx with
              | none => obtain ⟨a, b, c', d⟩ := hn rfl; omega
              | some _ => obtain ⟨a, b, c'⟩ := hs (by simp); omega
            have hrun2 : (Instr.sliceAt t (.slice (some ⟨u.blk, o', none⟩) len cap) lo' hi' mx').run P w =
                .ok (.slice (if m' = l then some ⟨u.blk, o', none⟩ else some ((⟨u.blk, o', none⟩ : Addr).add (l * ev.size))) (h - l) (m' - l)) w := by
              unfold Instr.sliceAt
              simp only [Sem.run_bind, run_underlying hu, Result.andThen_ok, Instr.slice, hrun, ty_size hV w hev, Sem.run_pure]
              split <;> rfl
            refine ⟨_, hrun2, ?_⟩
            split at e
            · -- the capacity is known
              rename_i hex2
              cases e
              have hmm : m' = m := by
                cases mx with
                | some _ => exact (hs (by simp)).1
                | none =>
                  have hE : View.exactB c = true := by simpa using hex2
                  obtain ⟨a, b, _, _⟩ := hn rfl
                  have := hex hE
                  omega
              subst hmm
              by_cases hml : m' = l
              · subst hml
                simp only [beq_same, if_true]
                exact VRel.slice_exactly hb (by omega) (by right; omega)
              · have h2 : Nat.beq m' l = false := beq_ne hml
                simp only [h2, hml, if_false, add_none, View.off]
                have hc0 : cap ≠ 0 := by omega
                rcases hoff with rfl | h0
                · exact VRel.slice_exactly hb (by omega) (.inl (by omega))
                · exact absurd h0 hc0
            · rename_i hex2
              split at e
              case h_2 => cases e
              rename_i g cc hgc
              split at e
              case h_2 => cases e
              rename_i hgs
              cases e
              simp only [Bool.or_eq_false_iff] at hex2
              obtain ⟨hE, hmx⟩ := hex2
              cases mx with
              | some _ => simp at hmx
              | none =>
                obtain ⟨rfl, rfl, hh1, hh2⟩ := hn rfl
                obtain ⟨hu1, hu2⟩ := hun hE
                have hsz : ev.size = u.esz := by
                  obtain ⟨_, _, _, _, hfz, _⟩ := hh.row w hgc hb
                  have h1 := (hfz rfl).2
                  have h2 : g = ev.size := beq_eq hgs
                  omega
                have hcl : c / 2 - l ≤ m' - l := by omega
                by_cases hml : m' = l
                · subst hml
                  simp only [if_true]
                  refine VRel.slice_atLeast hb (by omega) hcl ?_ (.inr (by omega))
                  rw [hsz]; have := hu2; simp; omega
                · simp only [hml, if_false, add_none, View.off]
                  have hc0 : m' ≠ 0 := by omega
                  rcases hoff with rfl | h0
                  · refine VRel.slice_atLeast hb (by omega) hcl ?_ (.inl (by omega))
                    rw [hsz]
                    have : (m' - l) * u.esz + l * u.esz = m' * u.esz := by rw [← Nat.add_mul]; congr 1; omega
                    omega
                  · exact absurd h0 hc0
      · cases e
    · -- a pointer to an array
      rename_i arr a hdsc
      obtain ⟨b, o, s⟩ := a
      obtain ⟨rfl, u, hb, rfl⟩ := hx.ptr_inv
      rw [hdsc] at hu
      split at e
      · rename_i av hav
        have hua := (hV arr av hav).under
        split at e
        · rename_i n el hda
          rw [hda] at hua
          split at e
          · rename_i ev l h m hev hbo
            cases e
            obtain ⟨m', hrun, hlh, hn, hs⟩ := bounds_run (P := P) (w := w) false hbo n (Nat.le_refl _) (Nat.le_refl _) r1 r2 r3
            have hmm : m' = m ∧ h ≤ m := by
              cases mx with
              | none =>
                obtain ⟨a, b, c, d⟩ := hn rfl
                refine ⟨by omega, ?_⟩
                cases hi with
                | none => have := c rfl; omega
                | some _ => have := d (by simp); omega
              | some _ => obtain ⟨a, b, c⟩ := hs (by simp); exact ⟨a, by omega⟩
            obtain ⟨rfl, hle⟩ := hmm
            refine ⟨.slice (some (if m' = l then ⟨u.blk, o + u.delta, none⟩ else (⟨u.blk, o + u.delta, none⟩ : Addr).add (l * ev.size))) (h - l) (m' - l), ?_, ?_⟩
            · unfold Instr.sliceAt
              simp only [Sem.run_bind, run_underlying hu, Result.andThen_ok, Instr.slice, asAddr, Sem.run_pure, run_underlying hua, hrun, ty_size hV w hev]
            · by_cases hml : m' = l
              · subst hml
                simp only [beq_same, if_true]
                exact VRel.slice_exactly hb (by omega) (.inl rfl)
              · have : Nat.beq m' l = false := beq_ne hml
                simp only [this, hml, if_false, add_none, View.off]
                exact VRel.slice_exactly hb (by omega) (.inl (by omega))
          · cases e
        · cases e
      · cases e
    · -- a string
      rename_i s hdsc
      cases hx
      rw [hdsc] at hu
      split at e
      · cases e
      · rename_i hmx
        split at e
        · rename_i l h m hbo
          cases e
          cases mx' with
          | some _ => exact r3.elim
          | none =>
            obtain ⟨m', hrun, hlh, hn, hs⟩ := bounds_run (P := P) (w := w) false hbo s.size (Nat.le_refl _) (Nat.le_refl _) r1 r2 (by trivial)
            refine ⟨.string (s.extract l h), ?_, .string _⟩
            unfold Instr.sliceAt
            simp only [Sem.run_bind, run_underlying hu, Result.andThen_ok, Instr.slice, Option.isSome_none, Bool.false_eq_true, if_false, hrun]
            simp
        · cases e
    · cases e
end
end
end Go.Sp

-- Sp.Ops6
/-! Places, parts, building; maps. -/
namespace Go.Sp
noncomputable section

section
variable {P : Program} {V : View} (hV : ∀ t tv, V.ty.get t = some tv → TyOk P t tv) {ok : FuncId → Nat → Code → Prop} {β : Ren} {H : Heap} {w : World} {base : Nat}

theorem arr_getElem? {α : Type} (a : Array α) (i : Nat) : a.toList[i]? = a[i]? := by simp

include hV in
theorem sim_indexAddr {t : TypeId} {x i x' i' v : Value} (e : V.indexAddr t x i = some v) (hx : VRel β x x') (hi : VRel β i i') :
    ∃ v', (Instr.indexAt t x' i').run P w = .ok v' w ∧ VRel β v v' := by
  unfold View.indexAddr at e
  split at e
  · rename_i tv k i ht
    cases hi
    have hu := (hV t tv ht).under
    split at e
    · rename_i len el a hdsc
      obtain ⟨b, o, s⟩ := a
      obtain ⟨rfl, u, hb, rfl⟩ := hx.ptr_inv
      rw [hdsc] at hu
      split at e
      · rename_i ev hev hbd
        cases e
        simp only [Bool.and_eq_true, decide_eq_true_eq] at hbd
        obtain ⟨h0, h1⟩ := hbd
        have h1' : i.toNat < len := by simpa using h1
        have h2 : 0 ≤ i ∧ i < (len : Int) := by omega
        refine ⟨.pointer (some ⟨u.blk, o + u.delta + i.toNat * ev.size, none⟩), ?_, ?_⟩
        · unfold Instr.indexAt
          simp [asIntOf, run_underlying hu, Instr.sureAddr, h2, ty_size hV w hev, add_none]
        · have := VRel.ptr (o := o + i.toNat * ev.size) hb
          rw [show o + i.toNat * ev.size + u.delta = o + u.delta + i.toNat * ev.size by omega] at this
          exact this
      · cases e
    · rename_i el a len c hdsc
      obtain ⟨b, o, s⟩ := a
      obtain ⟨rfl, u, cap, o', hb, rfl, hlc, hex, hun, hoff⟩ := hx.slice_inv
      rw [hdsc] at hu
      split at e
      · rename_i ev hev hbd
        cases e
        simp only [Bool.and_eq_true, decide_eq_true_eq] at hbd
        obtain ⟨h0, h1⟩ := hbd
        have h1' : i.toNat < len := by simpa using h1
        have h2 : 0 ≤ i ∧ i < (len : Int) := by omega
        refine ⟨.pointer (some ⟨u.blk, o' + i.toNat * ev.size, none⟩), ?_, ?_⟩
        · unfold Instr.indexAt
          simp [asIntOf, run_underlying hu, h2, ty_size hV w hev, add_none]
        · rcases hoff with rfl | h0'
          · have := VRel.ptr (o := o + i.toNat * ev.size) hb
            rw [show o + i.toNat * ev.size + u.delta = o + u.delta + i.toNat * ev.size by omega] at this
            exact this
          · omega
      · cases e
    · cases e
  · cases e

include hV in
theorem sim_fieldAddr {s : TypeId} {x x' v : Value} {f : Nat} (e : V.fieldAddr s x f = some v) (hx : VRel β x x') :
    ∃ v', (Instr.fieldAt s x' f).run P w = .ok v' w ∧ VRel β v v' := by
  unfold View.fieldAddr at e
  split at e
  · rename_i tv a ht
    obtain ⟨b, o, sp⟩ := a
    obtain ⟨rfl, u, hb, rfl⟩ := hx.ptr_inv
    have hu := (hV s tv ht).under
    split at e
    · rename_i fs hdsc
      rw [hdsc] at hu
      split at e
      · rename_i fd hf
        split at e
        · rename_i fv hfv
          split at e
          · cases e
          · rename_i hz
            cases e
            have hz' : fv.size ≠ 0 := fun h => by rw [h] at hz; cases hz
            have hf' : fs[f]? = some fd := by rw [← arr_getElem?]; exact hf
            refine ⟨.pointer (some ⟨u.blk, o + u.delta + fd.offset, none⟩), ?_, ?_⟩
            · unfold Instr.fieldAt
              simp [run_underlying hu, hf', Instr.sureAddr, fieldPlace, ty_size hV w hfv, hz', add_none]
            · have := VRel.ptr (o := o + fd.offset) hb
              rw [show o + fd.offset + u.delta = o + u.delta + fd.offset by omega] at this
              exact this
        · cases e
      · cases e
    · cases e
  · cases e

include hV in
theorem sim_field {s : TypeId} {x x' v : Value} {f : Nat} (e : V.field s x f = some v) (hx : VRel β x x') :
    ∃ v', (Instr.field s x' f).run P w = .ok v' w ∧ VRel β v v' := by
  unfold View.field at e
  split at e
  · rename_i tv cs ht
    obtain ⟨cs', rfl, rc⟩ := hx.agg_inv
    have hu := (hV s tv ht).under
    split at e
    · rename_i fs hdsc
      rw [hdsc] at hu
      split at e
      · rename_i fd hf
        obtain ⟨v', h1, h2⟩ := part_run hV w e rc
        have hf' : fs[f]? = some fd := by rw [← arr_getElem?]; exact hf
        refine ⟨v', ?_, h2⟩
        unfold Instr.field
        simp [run_underlying hu, hf', asAgg, h1]
      · cases e
    · cases e
  · cases e

include hV in
theorem sim_index {t : TypeId} {x i x' i' v : Value} (e : V.index t x i = some v) (hx : VRel β x x') (hi : VRel β i i') :
    ∃ v', (Instr.index t x' i').run P w = .ok v' w ∧ VRel β v v' := by
  unfold View.index at e
  split at e
  · rename_i tv k i ht
    cases hi
    have hu := (hV t tv ht).under
    split at e
    · rename_i len el cs hdsc
      obtain ⟨cs', rfl, rc⟩ := hx.agg_inv
      rw [hdsc] at hu
      split at e
      · rename_i ev hev hbd
        simp only [Bool.and_eq_true, decide_eq_true_eq] at hbd
        obtain ⟨h0, h1⟩ := hbd
        have h1' : i.toNat < len := by simpa using h1
        have h2 : 0 ≤ i ∧ i < (len : Int) := by omega
        obtain ⟨v', h3, h4⟩ := part_run hV w e rc
        refine ⟨v', ?_, h4⟩
        unfold Instr.index
        simp [asIntOf, run_underlying hu, h2, ty_size hV w hev, h3]
      · cases e
    · rename_i s hdsc
      cases hx
      rw [hdsc] at hu
      split at e
      · rename_i h0
        have h0' : 0 ≤ i := by simpa using h0
        split at e
        · rename_i c hc
          cases e
          have hc' : s[i.toNat]? = some c := by
            have : s.data[i.toNat]? = some c := by rw [← arr_getElem?]; exact hc
            obtain ⟨hlt, he⟩ := Array.getElem?_eq_some_iff.1 this
            have hlt' : i.toNat < s.size := hlt
            rw [getElem?_pos s i.toNat hlt']
            exact congrArg some he
          refine ⟨.int .u8 c.toNat, ?_, .int _ _⟩
          unfold Instr.index
          simp [asIntOf, run_underlying hu, h0', hc']
        · cases e
      · cases e
    · cases e
  · cases e

/-- Parts of a value that is built. -/
def PRel (β : Ren) (l l' : List (Nat × Value)) : Prop := l.length = l'.length ∧ ∀ (i : Nat) (p : Nat × Value), l[i]? = some p → ∃ p', l'[i]? = some p' ∧ p'.1 = p.1 ∧ VRel β p.2 p'.2
theorem PRel.cons_inv {p : Nat × Value} {l l' : List (Nat × Value)} (r : PRel β (p :: l) l') : ∃ p' m, l' = p' :: m ∧ p'.1 = p.1 ∧ VRel β p.2 p'.2 ∧ PRel β l m := by
  obtain ⟨h1, h2⟩ := r
  cases l' with
  | nil => simp at h1
  | cons v' m =>
    obtain ⟨u, k1, k, k2⟩ := h2 0 p (by simp)
    simp at k1; subst k1
    exact ⟨_, m, rfl, k, k2, by simpa using h1, fun i x k => by simpa using h2 (i + 1) x (by simpa using k)⟩

theorem zipIdx_set : ∀ (vs : List Value) (cs : Array Value) (o k : Nat), o + k + vs.length ≤ cs.size →
    (vs.zipIdx k).foldl (fun (cs : Array Value) (p : Value × Nat) => cs.setIfInBounds (o + p.2) p.1) cs = ⟨Heap.putFrom cs.toList (o + k) vs⟩
  | [], cs, o, k, _ => by simp [putFrom_nil]
  | v :: vs, cs, o, k, h => by
    simp only [List.length_cons] at h
    simp only [List.zipIdx_cons, List.foldl_cons]
    rw [zipIdx_set vs _ o (k + 1) (by simp; omega)]
    have : (cs.setIfInBounds (o + k) v).toList = cs.toList.set (o + k) v := by simp
    rw [this, show o + (k + 1) = (o + k) + 1 by omega, putFrom_cons _ _ _ _ (by simp; omega)]

theorem fill_run (place place' : Nat → Option (Nat × Nat)) (hpp : ∀ i x, place i = some x → place' i = some x) : ∀ (ps ps' : List (Nat × Value)) (c c' : List Value) (d : List Value), View.fillFields place c ps = some d → LRel β c c' → PRel β ps ps' →
    ∃ d', Instr.fill place' ⟨c'⟩ ps' = some ⟨d'⟩ ∧ LRel β d d'
  | [], ps', c, c', d, e, hc, hp => by
    have : ps' = [] := by have := hp.1; cases ps' <;> simp_all
    subst this
    simp [View.fillFields] at e
    subst e
    exact ⟨c', by simp [Instr.fill], hc⟩
  | (i, v) :: ps, ps', c, c', d, e, hc, hp => by
    obtain ⟨⟨i', v'⟩, m, rfl, rfl, hv, hm⟩ := hp.cons_inv
    unfold View.fillFields at e
    split at e
    · cases e
    · rename_i o size hpl
      split at e
      · rename_i hb
        simp only [Bool.and_eq_true] at hb
        obtain ⟨h1, h2⟩ := hb
        have h1 := beq_eq h1
        have h2 : o + v.cells.size ≤ c.length := by simpa using h2
        have hcl := hv.cells
        have hsz : v'.cells.size = v.cells.size := by have := hcl.1; simp at this; omega
        have hl : c.length = c'.length := hc.1
        have hput : LRel β (Heap.putFrom c o v.cells.toList) (Heap.putFrom c' o v'.cells.toList) := by
          unfold Heap.putFrom
          have hlen : v'.cells.toList.length = v.cells.toList.length := by simpa using hsz
          rw [hlen]
          exact ((hc.take o).append hcl).append (hc.drop _)
        obtain ⟨d', h3, h4⟩ := fill_run place place' hpp ps m _ _ d e hput hm
        refine ⟨d', ?_, h4⟩
        unfold Instr.fill
        simp only [hpp _ _ hpl]
        have hno : ¬ (v'.cells.size ≠ size ∨ o + v'.cells.size > (⟨c'⟩ : Array Value).size) := by
          simp; omega
        simp only [ne_eq, Bool.or_eq_true, decide_eq_true_eq]
        rw [if_neg (by simp; omega)]
        have := zipIdx_set v'.cells.toList ⟨c'⟩ o 0 (by simp; omega)
        rw [← h3]
        congr 1
        rw [← Array.foldl_toList]
        simpa using this
      · cases e

theorem PRel.map (ps : Array (Nat × Operand)) (ρ ρ' : Operand → Value) (h : ∀ x, x ∈ (ps.toList.map (·.2)) → VRel β (ρ x) (ρ' x)) :
    PRel β (ps.toList.map fun p => (p.1, ρ p.2)) (ps.map fun p => (p.1, ρ' p.2)).toList := by
  refine ⟨by simp, fun i p e => ?_⟩
  simp only [List.getElem?_map, Option.map_eq_some_iff] at e
  obtain ⟨q, hq, rfl⟩ := e
  refine ⟨(q.1, ρ' q.2), by simp [hq], rfl, h _ ?_⟩
  exact List.mem_map.2 ⟨q, List.mem_of_getElem? hq, rfl⟩
end
end
end Go.Sp

-- Sp.Ops7
/-! Building. -/
namespace Go.Sp
noncomputable section

theorem getMod {z : Array Value} {i : Nat} (h : 0 < z.size) : z[i % z.size]! = z[i % z.size]'(Nat.mod_lt _ h) := by
  rw [getElem!_pos z (i % z.size) (Nat.mod_lt _ h)]

theorem reps_length (z : List Value) : ∀ n, (View.reps z n).length = n * z.length
  | 0 => by simp [View.reps]
  | n + 1 => by simp [View.reps, reps_length z n, Nat.add_mul]; omega

theorem reps_get (z : List Value) (hz : 0 < z.length) : ∀ (n i : Nat), i < n * z.length → (View.reps z n)[i]? = z[i % z.length]?
  | 0, i, h => by simp at h
  | n + 1, i, h => by
    unfold View.reps
    by_cases hi : i < z.length
    · rw [List.getElem?_append_left hi, Nat.mod_eq_of_lt hi]
    · have h2 : (n + 1) * z.length = n * z.length + z.length := Nat.succ_mul n z.length
      rw [List.getElem?_append_right (by omega), reps_get z hz n (i - z.length) (by omega)]
      congr 1
      exact (Nat.mod_eq_sub_mod (by omega)).symm

/-- The model's row of zeros. -/
theorem zeros_eq (z : Array Value) (hz : 0 < z.size) (n : Nat) : ((Array.range (n * z.size)).map fun i => z[i % z.size]!) = ⟨View.reps z.toList n⟩ := by
  have hl : (View.reps z.toList n).length = n * z.size := by rw [reps_length]; simp
  apply Array.ext
  · simp [hl]
  · intro i h1 h2
    have hi : i < n * z.size := by simpa using h1
    have e := reps_get z.toList (by simpa using hz) n i (by simpa using hi)
    simp only [Array.getElem_map, Array.getElem_range, getMod hz]
    have h3 : i < (View.reps z.toList n).length := by omega
    rw [List.getElem?_eq_getElem h3, List.getElem?_eq_getElem (by simpa using Nat.mod_lt i hz)] at e
    have e2 := Option.some.inj e
    have : (⟨View.reps z.toList n⟩ : Array Value)[i] = (View.reps z.toList n)[i] := rfl
    rw [this, e2]
    simp

theorem LRel.reps {β : Ren} {z z' : List Value} (h : LRel β z z') : ∀ n, LRel β (View.reps z n) (View.reps z' n)
  | 0 => LRel.nil β
  | n + 1 => h.append (LRel.reps h n)

section
variable {P : Program} {V : View} (hV : ∀ t tv, V.ty.get t = some tv → TyOk P t tv) {ok : FuncId → Nat → Code → Prop} {β : Ren} {H : Heap} {w : World} {base : Nat}

theorem sizeOf_info {t : TypeId} {i : TypeInfo} (h : P.info? t = some i) (w : World) : (sizeOf t).run P w = .ok i.size w := by
  simp [sizeOf, typeInfo, h]

theorem places_list (w : World) : ∀ (l : List Field), (∀ f ∈ l, ∃ i, P.info? f.type = some i) → ∃ pl : List (Nat × Nat), (l.mapM fun f => do pure (f.offset, ← sizeOf f.type) : Sem (List (Nat × Nat))).run P w = .ok pl w ∧
    (∀ (i : Nat) (f : Field) (x : TypeInfo), l[i]? = some f → P.info? f.type = some x → pl[i]? = some (f.offset, x.size))
  | [], _ => ⟨[], by simp, fun i f x h => by simp at h⟩
  | f :: l, h => by
    obtain ⟨x, hx⟩ := h f (by simp)
    obtain ⟨pl, h1, h2⟩ := places_list w l fun g hg => h g (by simp [hg])
    refine ⟨(f.offset, x.size) :: pl, ?_, ?_⟩
    · rw [List.mapM_cons]
      simp only [Sem.run_bind, sizeOf_info hx, Result.andThen_ok, Sem.run_pure, h1]
    · intro i g y hi hy
      cases i with
      | zero => simp at hi; subst hi; rw [hx] at hy; cases hy; simp
      | succ i => simpa using h2 i g y (by simpa using hi) hy

include hV
theorem places_run (w : World) (fs : Array Field) (h : ∀ f ∈ fs, ∃ i, P.info? f.type = some i) :
    ∃ pl : Array (Nat × Nat), (fs.mapM fun f => do pure (f.offset, ← sizeOf f.type) : Sem (Array (Nat × Nat))).run P w = .ok pl w ∧ ∀ (i : Nat) (x : Nat × Nat), V.place fs i = some x → pl[i]? = some x := by
  obtain ⟨pl, h1, h2⟩ := places_list (P := P) w fs.toList (fun f hf => h f (by simpa using hf))
  refine ⟨⟨pl⟩, ?_, ?_⟩
  · rw [Array.mapM_eq_mapM_toList]
    simp only [Sem.run_map, h1, Result.andThen_ok]
  · intro i x hx
    unfold View.place at hx
    split at hx
    · rename_i f hf
      split at hx
      · rename_i fv hfv
        cases hx
        obtain ⟨y, e1, e2, _⟩ := (hV _ _ hfv).info
        have := h2 i f y hf e1
        rw [← e2]
        simpa using this
      · cases hx
    · cases hx

theorem sim_build {t : TypeId} {ps ps' : List (Nat × Value)} {v : Value} (e : V.build t ps = some v) (hp : PRel β ps ps') :
    ∃ v', (Instr.build t ⟨ps'⟩).run P w = .ok v' w ∧ VRel β v v' := by
  unfold View.build at e
  split at e
  · cases e
  · rename_i tv ht
    have hu := (hV t tv ht).under
    have hz := ((VRel.plain (β := β) 10 _ (hV t tv ht).zero)).cells
    unfold Instr.build
    simp only [Sem.run_bind, ty_zero hV w ht, Result.andThen_ok, run_underlying hu]
    split at e
    · rename_i fs hdsc
      have hfl := (hV t tv ht).flds fs hdsc
      rw [hdsc]
      split at e
      · rename_i c hc
        cases e
        obtain ⟨pl, h1, h2⟩ := places_run hV w fs hfl
        obtain ⟨d', h3, h4⟩ := fill_run _ (fun i => pl[i]?) h2 ps ps' _ _ _ hc hz hp
        refine ⟨.agg ⟨d'⟩, ?_, VRel.agg_of h4⟩
        simp only [Sem.run_bind, h1, Result.andThen_ok]
        have : Instr.fill (fun i => pl[i]?) tv.zero.cells ps' = some ⟨d'⟩ := h3
        simp only [this, Sem.run_pure]
      · cases e
    · rename_i n el hdsc
      rw [hdsc]
      split at e
      · rename_i ev hev
        split at e
        · rename_i c hc
          cases e
          obtain ⟨d', h3, h4⟩ := fill_run _ (fun i => some (i * ev.size, ev.size)) (fun i x h => h) ps ps' _ _ _ hc hz hp
          refine ⟨.agg ⟨d'⟩, ?_, VRel.agg_of h4⟩
          have : Instr.fill (fun i => some (i * ev.size, ev.size)) tv.zero.cells ps' = some ⟨d'⟩ := h3
          simp only [Sem.run_bind, ty_size hV w hev, Result.andThen_ok, this, Sem.run_pure]
        · cases e
      · cases e
    · cases e

omit hV in
/-- A new row. -/
theorem sim_newRow (h : HRel ok β H w base) (g : Nat) {c c' : List Value} (hc : LRel β c c') (el : TypeId) :
    HRel ok (β.with H.next ⟨w.heap.size, 0, c.length, g⟩) (H.push (.cells true g c)) (w.alloc (.cells ⟨c'⟩ el)) base ∧
    Post β H w (β.with H.next ⟨w.heap.size, 0, c.length, g⟩) (H.push (.cells true g c)) (w.alloc (.cells ⟨c'⟩ el)) ∧
    (β.with H.next ⟨w.heap.size, 0, c.length, g⟩) H.next = some ⟨w.heap.size, 0, c.length, g⟩ := by
  refine ⟨h.push _ _ _ rfl ?_, Post.push h _ _ _ rfl, Ren.with_same _ _ _⟩
  refine .cells (fun _ => ⟨rfl, rfl⟩) ?_ ?_ ?_
  · simp [hc.1]
  · simp [hc.1]
  · intro i v hi
    obtain ⟨v', h1, h2⟩ := hc.2 i v hi
    exact ⟨v', by simpa using h1, h2⟩

omit hV in
theorem zeros_none (n sz : Nat) (h0 : 0 < sz) (hz : n * sz = 0) (z : List Value) : ((Array.range (n * sz)).map fun i => (#[] : Array Value)[i % (#[] : Array Value).size]!) = ⟨View.reps z n⟩ := by
  have hn : n = 0 := by rcases Nat.mul_eq_zero.1 hz with h | h <;> omega
  subst hn
  apply Array.ext
  · simp [View.reps]
  · intro i h1 h2; simp at h1

theorem sim_buildSlice (h : HRel ok β H w base) {t : TypeId} {n : Nat} {ps ps' : List (Nat × Value)} {v : Value} {H' : Heap} (e : V.buildSlice H t n ps = some (v, H')) (hp : PRel β ps ps') :
    ∃ β' w' v', (Instr.buildSlice t n ⟨ps'⟩).run P w = .ok v' w' ∧ HRel ok β' H' w' base ∧ VRel β' v v' ∧ Post β H w β' H' w' := by
  unfold View.buildSlice at e
  split at e
  · cases e
  · rename_i tv ht
    have hu := (hV t tv ht).under
    split at e
    · rename_i el hdsc
      rw [hdsc] at hu
      split at e
      · rename_i ev hev
        split at e
        · rename_i hb
          simp only [Bool.and_eq_true] at hb
          obtain ⟨⟨h1, h2⟩, h3⟩ := hb
          have h1 : n * ev.size ≤ 16777216 := Nat.le_of_ble_eq_true h1
          have h2 := beq_eq h2
          have h3 : 0 < ev.size := Nat.le_of_ble_eq_true h3
          split at e
          · rename_i c hc
            cases e
            have hz := ((VRel.plain (β := β) 10 _ (hV el ev hev).zero)).cells
            obtain ⟨d', h4, h5⟩ := fill_run _ (fun i => some (i * ev.size, ev.size)) (fun i x h => h) ps ps' _ _ _ hc (hz.reps n) hp
            obtain ⟨a, b, d⟩ := sim_newRow h 0 h5 el
            refine ⟨_, _, .slice (some ⟨w.heap.size, 0, none⟩) n n, ?_, a, ?_, b⟩
            · unfold Instr.buildSlice
              simp only [Sem.run_bind, run_underlying hu, Result.andThen_ok, ty_size hV w hev]
              have h16 : ¬ (n * ev.size > 2 ^ 24) := by
                rw [show (2 : Nat) ^ 24 = 16777216 from rfl]; omega
              simp only [if_neg h16]
              by_cases h0 : n * ev.size = 0
              · rw [if_pos h0]
                simp only [Sem.run_bind, Sem.run_pure, Result.andThen_ok, zeros_none n ev.size h3 h0 ev.zero.cells.toList, h4, newRow, run_newObj]
                rfl
              · rw [if_neg h0]
                have hze : ((Array.range (n * ev.size)).map fun i => ev.zero.cells[i % ev.zero.cells.size]!) = ⟨View.reps ev.zero.cells.toList n⟩ := by
                  rw [← h2]; exact zeros_eq _ (by omega) n
                simp only [Sem.run_bind, ty_zero hV w hev, Result.andThen_ok, Sem.run_pure, hze, h4, newRow, run_newObj]
                rfl
            · exact VRel.slice_exactly d (Nat.le_refl _) (.inl rfl)
          · cases e
        · cases e
      · cases e
    · cases e
end
end
end Go.Sp

-- Sp.Ops8
/-! make; maps. -/
namespace Go.Sp
noncomputable section

theorem wrap_small {c : Int} (h0 : 0 ≤ c) (h1 : c ≤ 1073741824) : IntKind.i64.wrap c = c := by
  have e : (2 : Int) ^ IntKind.i64.bits = 18446744073709551616 := by decide
  have e2 : (2 : Int) ^ (IntKind.i64.bits - 1) = 9223372036854775808 := by decide
  unfold IntKind.wrap
  rw [e, e2]
  have : c % 18446744073709551616 = c := Int.emod_eq_of_lt h0 (by omega)
  rw [this]
  have h2 : (IntKind.i64.signed && decide (c ≥ 9223372036854775808)) = false := by
    have : decide (c ≥ 9223372036854775808) = false := by simp; omega
    rw [this]; rfl
  simp [h2]

theorem mul_small {b : Nat} {c : Int} (hb : b ≤ 65536) (h0 : 0 ≤ c) (h1 : c ≤ 1073741824) : (b : Int) * c ≤ 281474976710656 := by
  have h2 : (b : Int) * c ≤ 65536 * 1073741824 := Int.mul_le_mul (by omega) h1 h0 (by omega)
  exact Int.le_trans h2 (by decide)

section
variable {P : Program} {V : View} (hV : ∀ t tv, V.ty.get t = some tv → TyOk P t tv) {ok : FuncId → Nat → Code → Prop} {β : Ren} {H : Heap} {w : World} {base : Nat}
include hV

theorem sim_makeSlice (h : HRel ok β H w base) {t : TypeId} {l c l' c' v : Value} {H' : Heap} (e : V.makeSlice H t l c = some (v, H')) (hl : VRel β l l') (hc : VRel β c c') :
    ∃ β' w' v', (Instr.makeSlice t l' c').run P w = .ok v' w' ∧ HRel ok β' H' w' base ∧ VRel β' v v' ∧ Post β H w β' H' w' := by
  unfold View.makeSlice at e
  split at e
  · rename_i tv k l k2 c ht
    cases hl; cases hc
    have hu := (hV t tv ht).under
    split at e
    · rename_i el hdsc
      rw [hdsc] at hu
      split at e
      · rename_i ev hev
        split at e
        · rename_i hb
          cases e
          simp only [Bool.and_eq_true, decide_eq_true_eq] at hb
          obtain ⟨⟨⟨⟨⟨h0, h1⟩, h2⟩, h3⟩, h4⟩, h5⟩ := hb
          have h3 : ev.bytes ≤ 65536 := Nat.le_of_ble_eq_true h3
          have h4 := beq_eq h4
          have h5 : 0 < ev.size := Nat.le_of_ble_eq_true h5
          obtain ⟨i, hi, hib⟩ := ty_info hV w hev
          have wl : IntKind.i64.wrap l = l := wrap_small h0 (by omega)
          have wc : IntKind.i64.wrap c = c := wrap_small (by omega) h2
          have hmul : (i.bytes : Int) * c ≤ 281474976710656 := by rw [hib]; exact mul_small h3 (by omega) h2
          have hz := (((VRel.plain (β := β) 10 _ (hV el ev hev).zero)).cells).reps c.toNat
          obtain ⟨a, b, d⟩ := sim_newRow h 0 hz el
          refine ⟨_, _, .slice (some ⟨w.heap.size, 0, none⟩) l.toNat c.toNat, ?_, a, ?_, b⟩
          · unfold Instr.makeSlice
            simp only [Sem.run_bind, run_underlying hu, Result.andThen_ok, asInt, asIntOf, Sem.run_pure, hi, wl, wc]
            have e48 : (2 : Int) ^ 48 = 281474976710656 := by decide
            rw [e48]
            have hcond : ((decide (c < 0) || decide ((i.bytes : Int) * c > 281474976710656)) || decide (l < 0) || decide (l > c)) = false := by
              simp only [Bool.or_eq_false_iff, decide_eq_false_iff_not]
              omega
            simp only [hcond, Bool.false_eq_true, if_false, Sem.run_bind, run_askRoom, Result.andThen_ok, ty_size hV w hev]
            by_cases h0' : c.toNat * ev.size = 0
            · rw [if_pos h0']
              simp only [Sem.run_bind, Sem.run_pure, Result.andThen_ok, zeros_none c.toNat ev.size h5 h0' ev.zero.cells.toList, newRow, run_newObj]
              rfl
            · rw [if_neg h0']
              have hze : ((Array.range (c.toNat * ev.size)).map fun i => ev.zero.cells[i % ev.zero.cells.size]!) = ⟨View.reps ev.zero.cells.toList c.toNat⟩ := by
                rw [← h4]; exact zeros_eq _ (by omega) _
              simp only [Sem.run_bind, ty_zero hV w hev, Result.andThen_ok, Sem.run_pure, hze, newRow, run_newObj]
              rfl
          · exact VRel.slice_exactly d (by omega) (.inl rfl)
        · cases e
      · cases e
    · cases e
  · cases e

omit hV in
theorem getObj_map {r : Nat} {es : Array MapEntry} {clock : Nat} (h : w.heap[r]? = some (.map es clock)) : (getObj r).run P w = .ok (.map es clock) w := by
  simp [getObj, Sem.run, h]
omit hV in
theorem setObj_map {r : Nat} {es : Array MapEntry} {clock : Nat} {x : Obj} (h : w.heap[r]? = some (.map es clock)) : (setObj r x).run P w = .ok () (setObjW w r x) := by
  simp [setObj, Sem.run, h, setObjW]

theorem map_under {t k e : TypeId} (h : V.mapTypes t = some (k, e)) : P.underlying t = some (.map k e) := by
  unfold View.mapTypes at h
  split at h
  · rename_i tv ht
    have hu := (hV t tv ht).under
    split at h
    · rename_i k' e' hdsc
      cases h
      rw [hdsc] at hu; exact hu
    · cases h
  · cases h

omit hV in
theorem keyT_ty {n : Nat} {t : TypeId} {x : Value} (h : V.keyT n t x = true) : ∃ tv, V.ty.get t = some tv := by
  cases n with
  | zero => simp [View.keyT] at h
  | succ n =>
    unfold View.keyT at h
    split at h
    · cases h
    · rename_i tv ht; exact ⟨tv, ht⟩

omit hV in
theorem okPair_rel {v v' : Value} (h : VRel β v v') (ok b : Bool) : VRel β (View.okPair ok v b) (if ok then .tuple #[v', .bool b] else v') := by
  cases ok
  · exact h
  · exact VRel.tuple_of (LRel.cons h (LRel.cons (.bool _) (LRel.nil β)))

theorem sim_lookIn {kt el : TypeId} {k k' v : Value} {cok : Bool} {es : List MapEntry} {es' : List MapEntry} {ktv : TV} (hkt : V.ty.get kt = some ktv) (e : V.lookIn kt el k cok es = some v) (hk : VRel β k k') (hr : MRel β es es') :
    ∃ r', (Instr.findKey kt k' es').run P w = .ok r' w ∧ ((∃ j v', r' = some (j, v') ∧ VRel β v (if cok then .tuple #[v', .bool true] else v')) ∨ (r' = none ∧ ∃ ev, V.ty.get el = some ev ∧ VRel β v (if cok then .tuple #[ev.zero, .bool false] else ev.zero))) := by
  unfold View.lookIn at e
  split at e
  · cases e
  · rename_i v0 hf
    cases e
    obtain ⟨r', h1, _, h3⟩ := findKey_run hV w hk hkt hf hr
    obtain ⟨v', e1, e2, rfl, hv, _⟩ := h3 _ _ rfl
    exact ⟨_, h1, .inl ⟨_, v', rfl, okPair_rel hv _ _⟩⟩
  · rename_i hf
    split at e
    · rename_i ev hev
      cases e
      obtain ⟨r', h1, h2, _⟩ := findKey_run hV w hk hkt hf hr
      have := h2 rfl; subst this
      exact ⟨_, h1, .inr ⟨rfl, ev, hev, okPair_rel (ty_zeroRel hV β hev) _ _⟩⟩
    · cases e

theorem sim_lookup (h : HRel ok β H w base) {t : TypeId} {m k m' k' v : Value} {cok : Bool} (e : V.lookup H t m k cok = some v) (hm : VRel β m m') (hk : VRel β k k') :
    ∃ v', (Instr.lookup t m' k' cok).run P w = .ok v' w ∧ VRel β v v' := by
  unfold View.lookup at e
  split at e
  · cases e
  · rename_i kt el hmt
    have hu := map_under hV hmt
    split at e
    · cases e
    · rename_i hkey
      obtain ⟨ktv, hkt⟩ := keyT_ty hkey
      unfold Instr.lookup
      simp only [Sem.run_bind, run_underlying hu, Result.andThen_ok]
      split at e
      · cases hm
        obtain ⟨r', h1, h2⟩ := sim_lookIn hV (w := w) hkt e hk MRel.nil
        rcases h2 with ⟨j, v', rfl, hv⟩ | ⟨rfl, ev, hev, hv⟩
        · exact ⟨_, by simp only [Sem.run_bind, Sem.run_pure, Result.andThen_ok, checkKey_run hV w _ hkey hk, h1], hv⟩
        · exact ⟨_, by simp only [Sem.run_bind, Sem.run_pure, Result.andThen_ok, checkKey_run hV w _ hkey hk, h1, ty_zero hV w hev], hv⟩
      · cases hm with
        | map hb =>
          split at e
          · rename_i own es0 clock hg
            obtain ⟨es', hw, hr⟩ := h.mapAt w hg hb
            obtain ⟨r', h1, h2⟩ := sim_lookIn hV (w := w) hkt e hk hr
            rcases h2 with ⟨j, v', rfl, hv⟩ | ⟨rfl, ev, hev, hv⟩
            · exact ⟨_, by simp only [Sem.run_bind, getObj_map hw, Sem.run_pure, Result.andThen_ok, checkKey_run hV w _ hkey hk, h1], hv⟩
            · exact ⟨_, by simp only [Sem.run_bind, getObj_map hw, Sem.run_pure, Result.andThen_ok, checkKey_run hV w _ hkey hk, h1, ty_zero hV w hev], hv⟩
          · cases e
      · cases e
end
end
end Go.Sp

-- Sp.Ops9
/-! Maps that are written. -/
namespace Go.Sp
noncomputable section

theorem sameK_eq : ∀ n x y, View.sameK n x y = true → x = y := by
  intro n
  induction n with
  | zero => intro x y h; simp [View.sameK] at h
  | succ n ih =>
    intro x y h
    unfold View.sameK at h
    split at h
    · simp at h; rw [h]
    · simp at h; rw [h.1, h.2]
    · simp only [beq_toListBytes, beq_iff_eq] at h
      congr 1
      rw [ByteArray.toList_eq, ByteArray.toList_eq] at h
      rename_i a b
      obtain ⟨⟨a⟩⟩ := a; obtain ⟨⟨b⟩⟩ := b
      simp at h; subst h; rfl
    · rename_i a b
      simp only [Bool.and_eq_true, beq_iff_eq] at h
      obtain ⟨h1, h2⟩ := h
      congr 1
      apply Array.ext h1
      intro i hi1 hi2
      have := List.all_eq_true.1 h2 (a[i], b[i]) (by
        rw [List.mem_iff_getElem]
        exact ⟨i, by simp; omega, by simp⟩)
      exact ih _ _ this
    · cases h

theorem sameK_rel {β : Ren} : ∀ n x x', View.sameK n x x = true → VRel β x x' → x' = x := by
  intro n
  induction n with
  | zero => intro x y h; simp [View.sameK] at h
  | succ n ih =>
    intro x x' h r
    cases x <;> simp only [View.sameK, Bool.false_eq_true] at h
    case bool => cases r; rfl
    case int => cases r; rfl
    case string => cases r; rfl
    case agg a =>
      obtain ⟨a', rfl, ra⟩ := r.agg_inv
      simp only [Bool.and_eq_true, beq_iff_eq] at h
      obtain ⟨h1, h2⟩ := h
      congr 1
      have hs : a.size = a'.size := by simpa using ra.1
      apply Array.ext hs.symm
      intro i hi1 hi2
      obtain ⟨v', e1, e2⟩ := ra.2 i a[i] (by simp [hi2])
      have e3 : a'[i] = v' := by simpa [hi1] using e1
      rw [e3]
      refine ih _ _ ?_ e2
      exact List.all_eq_true.1 h2 (a[i], a[i]) (by
        rw [List.mem_iff_getElem]
        exact ⟨i, by simp; omega, by simp⟩)

theorem sameK_bits : ∀ n x m, View.sameK n x x = true → n ≤ m → Instr.sameBits m x x = true := by
  intro n
  induction n with
  | zero => intro x m h; simp [View.sameK] at h
  | succ n ih =>
    intro x m h hm
    obtain ⟨m, rfl⟩ : ∃ k, m = k + 1 := ⟨m - 1, by omega⟩
    unfold View.sameK at h
    split at h
    · simp [Instr.sameBits]
    · simp [Instr.sameBits]
    · unfold Instr.sameBits; exact h
    · rename_i a b
      simp only [Bool.and_eq_true, beq_iff_eq] at h
      unfold Instr.sameBits
      simp only [beq_self_eq_true, Bool.true_and]
      rw [List.all_eq_true] at h ⊢
      intro p hp
      have hq := h.2 p hp
      have e := sameK_eq _ _ _ hq
      rw [← e] at hq ⊢
      exact ih _ _ hq (by omega)
    · cases h

theorem putVal_rel {β : Ren} {v v' : Value} (hv : VRel β v v') {k : Value} : ∀ (es : List MapEntry) (es' : List MapEntry) (i : Nat), MRel β es es' → (∀ e, es[i]? = some e → VRel β e.key k) →
    MRel β (View.putVal v es i) (es'.modify i fun e => { e with key := k, val := v' })
  | [], es', i, h, _ => by rw [MRel.nil_inv h]; simpa [View.putVal] using MRel.nil
  | e :: es, es', 0, h, hk => by
    obtain ⟨e', m, rfl, a, b⟩ := h.cons_inv
    simp only [View.putVal, List.modify_zero_cons]
    exact MRel.cons ⟨a.1, hk e (by simp), hv⟩ b
  | e :: es, es', i + 1, h, hk => by
    obtain ⟨e', m, rfl, a, b⟩ := h.cons_inv
    simp only [View.putVal, List.modify_succ_cons]
    exact MRel.cons a (putVal_rel hv es m i b fun x hx => hk x (by simpa using hx))

theorem setKey_rel {β : Ren} {k : Value} : ∀ (es : List MapEntry) (es' : List MapEntry) (i : Nat), MRel β es es' → (∀ e, es[i]? = some e → VRel β e.key k) →
    MRel β es (es'.modify i fun e => { e with key := k })
  | [], es', i, h, _ => by rw [MRel.nil_inv h]; simpa using MRel.nil
  | e :: es, es', 0, h, hk => by
    obtain ⟨e', m, rfl, a, b⟩ := h.cons_inv
    simp only [List.modify_zero_cons]
    exact MRel.cons ⟨a.1, hk e (by simp), a.2.2⟩ b
  | e :: es, es', i + 1, h, hk => by
    obtain ⟨e', m, rfl, a, b⟩ := h.cons_inv
    simp only [List.modify_succ_cons]
    exact MRel.cons a (setKey_rel es m i b fun x hx => hk x (by simpa using hx))

theorem putVal2_rel {β : Ren} {v v' : Value} (hv : VRel β v v') : ∀ (es : List MapEntry) (es' : List MapEntry) (i : Nat), MRel β es es' →
    MRel β (View.putVal v es i) (es'.modify i fun e => { e with val := v' })
  | [], es', i, h => by rw [MRel.nil_inv h]; simpa [View.putVal] using MRel.nil
  | e :: es, es', 0, h => by
    obtain ⟨e', m, rfl, a, b⟩ := h.cons_inv
    simp only [View.putVal, List.modify_zero_cons]
    exact MRel.cons ⟨a.1, a.2.1, hv⟩ b
  | e :: es, es', i + 1, h => by
    obtain ⟨e', m, rfl, a, b⟩ := h.cons_inv
    simp only [View.putVal, List.modify_succ_cons]
    exact MRel.cons a (putVal2_rel hv es m i b)

section
variable {P : Program} {V : View} (hV : ∀ t tv, V.ty.get t = some tv → TyOk P t tv) {ok : FuncId → Nat → Code → Prop} {β : Ren} {H : Heap} {w : World} {base : Nat}
include hV

omit hV in
theorem HRel.setMap (h : HRel ok β H w base) {b : Nat} {es : List MapEntry} {clock : Nat} (hb : H.get b = some (.map true es clock)) {u : Tgt} (hu : β b = some u)
    {es2 : List MapEntry} {es2' : Array MapEntry} (clock2 : Nat) (hr : MRel β es2 es2'.toList) :
    HRel ok β (H.upd b (.map true es2 clock2)) (setObjW w u.blk (.map es2' clock2)) base ∧ Post β H w β (H.upd b (.map true es2 clock2)) (setObjW w u.blk (.map es2' clock2)) :=
  ⟨h.upd hb rfl hu _ _ (.map hr), Post.upd h hb rfl hu _ _⟩

theorem keyStays {k k' : Value} {es : List MapEntry} {es' : Array MapEntry} {i : Nat} {x : MapEntry} (hr : MRel β es es'.toList) (hx : es[i]? = some x) (hs : View.sameK 10 x.key k = true) (hk : VRel β k k') :
    (Instr.keyThatStays (((es'[i]?).map (·.key)).getD k') k').run P w = .ok k' w ∧ VRel β x.key k' := by
  have _ := hV
  have e1 := sameK_eq _ _ _ hs
  rw [← e1] at hs hk
  have e2 := sameK_rel _ _ _ hs hk
  subst e2
  obtain ⟨x', hx', hrel⟩ := hr.2 i x hx
  have e3 := sameK_rel _ _ _ hs hrel.2.1
  have hx2 : es'[i]? = some x' := by simpa using hx'
  rw [hx2]
  simp only [Option.map_some, Option.getD_some, e3]
  unfold Instr.keyThatStays
  rw [if_pos (sameK_bits 10 _ 10000 hs (by decide))]
  exact ⟨rfl, hk⟩

theorem sim_mapUpdate (h : HRel ok β H w base) {t : TypeId} {m k v m' k' v' : Value} {H' : Heap} (e : V.mapUpdate H t m k v = some H') (hm : VRel β m m') (hk : VRel β k k') (hv : VRel β v v') :
    ∃ w', (Instr.mapUpdate t m' k' v').run P w = .ok () w' ∧ HRel ok β H' w' base ∧ Post β H w β H' w' := by
  unfold View.mapUpdate at e
  split at e
  · rename_i kt el r hmt
    have hu := map_under hV hmt
    cases hm with
    | map hb =>
      rename_i u
      split at e
      · rename_i es clock hkey hg
        obtain ⟨ktv, hkt⟩ := keyT_ty hkey
        obtain ⟨es', hw, hr⟩ := h.mapAt w hg hb
        unfold Instr.mapUpdate
        simp only [Sem.run_bind, run_underlying hu, Result.andThen_ok, getObj_map hw, checkKey_run hV w _ hkey hk]
        split at e
        · rename_i i v0 hf
          split at e
          · rename_i x hx
            split at e
            · rename_i hs
              cases e
              obtain ⟨r', h1, _, h3⟩ := findKey_run hV w hk hkt hf hr
              obtain ⟨v1, e1, e2, rfl, _⟩ := h3 _ _ rfl
              obtain ⟨ks, kr⟩ := keyStays hV (P := P) (w := w) hr hx hs hk
              have hrel := putVal_rel hv es es'.toList i hr (k := k') (fun e he => by rw [hx] at he; cases he; exact kr)
              obtain ⟨a, b⟩ := h.setMap hg hb (es2 := View.putVal v es i) (es2' := es'.modify i fun e => { e with key := k', val := v' }) clock (by simpa using hrel)
              exact ⟨_, by simp only [h1, Result.andThen_ok, Sem.run_bind, ks, setObj_map hw], a, b⟩
            · cases e
          · cases e
        · rename_i hf
          cases e
          obtain ⟨r', h1, h2, _⟩ := findKey_run hV w hk hkt hf hr
          have := h2 rfl; subst this
          have hrel : MRel β (es ++ [{ key := k, val := v, born := clock }]) (es'.push { key := k', val := v', born := clock }).toList := by
            simp only [Array.toList_push]
            exact hr.append (MRel.cons ⟨rfl, hk, hv⟩ MRel.nil)
          obtain ⟨a, b⟩ := h.setMap hg hb (clock + 1) hrel
          exact ⟨_, by simp only [h1, Result.andThen_ok, setObj_map hw], a, b⟩
        · cases e
      · cases e
  · cases e

theorem sim_mapEntry (h : HRel ok β H w base) {t : TypeId} {m k m' k' v : Value} {H' : Heap} (e : V.mapEntry H t m k = some (v, H')) (hm : VRel β m m') (hk : VRel β k k') :
    ∃ w' v', (Instr.mapEntry t m' k').run P w = .ok v' w' ∧ HRel ok β H' w' base ∧ VRel β v v' ∧ Post β H w β H' w' := by
  unfold View.mapEntry at e
  split at e
  · rename_i kt el r hmt
    have hu := map_under hV hmt
    cases hm with
    | map hb =>
      rename_i u
      split at e
      · rename_i es clock ev hkey hg hev
        obtain ⟨ktv, hkt⟩ := keyT_ty hkey
        obtain ⟨es', hw, hr⟩ := h.mapAt w hg hb
        unfold Instr.mapEntry
        simp only [Sem.run_bind, run_underlying hu, Result.andThen_ok, getObj_map hw, checkKey_run hV w _ hkey hk]
        split at e
        · rename_i i v0 hf
          split at e
          · rename_i x hx
            split at e
            · rename_i hs
              cases e
              obtain ⟨r', h1, _, h3⟩ := findKey_run hV w hk hkt hf hr
              obtain ⟨v1, e1, e2, rfl, hv1, _⟩ := h3 _ _ rfl
              obtain ⟨ks, kr⟩ := keyStays hV (P := P) (w := w) hr hx hs hk
              have hrel := setKey_rel es es'.toList i hr (k := k') (fun e he => by rw [hx] at he; cases he; exact kr)
              obtain ⟨a, b⟩ := h.setMap hg hb (es2 := es) (es2' := es'.modify i fun e => { e with key := k' }) clock (by simpa using hrel)
              obtain ⟨x', hx', hxr⟩ := hr.2 i x hx
              have hx2 : es'[i]? = some x' := by simpa using hx'
              rw [hx2] at ks
              simp only [Option.map_some, Option.getD_some] at ks
              refine ⟨_, .tuple #[v1, goInt x'.born], by simp only [h1, Result.andThen_ok, Sem.run_bind, ks, setObj_map hw, Sem.run_pure, hx2, Option.map_some, Option.getD_some], a, ?_, b⟩
              rw [hxr.1]
              exact VRel.tuple_of (LRel.cons hv1 (LRel.cons (.int _ _) (LRel.nil β)))
            · cases e
          · cases e
        · rename_i hf
          cases e
          obtain ⟨r', h1, h2, _⟩ := findKey_run hV w hk hkt hf hr
          have := h2 rfl; subst this
          have hz := ty_zeroRel hV β hev
          have hrel : MRel β (es ++ [{ key := k, val := ev.zero, born := clock }]) (es'.push { key := k', val := ev.zero, born := clock }).toList := by
            simp only [Array.toList_push]
            exact hr.append (MRel.cons ⟨rfl, hk, hz⟩ MRel.nil)
          obtain ⟨a, b⟩ := h.setMap hg hb (clock + 1) hrel
          refine ⟨_, .tuple #[ev.zero, goInt clock], by simp only [h1, Result.andThen_ok, Sem.run_bind, ty_zero hV w hev, setObj_map hw, Sem.run_pure], a, ?_, b⟩
          exact VRel.tuple_of (LRel.cons hz (LRel.cons (.int _ _) (LRel.nil β)))
        · cases e
      · cases e
  · cases e

omit hV in
theorem bornAt_run (n : Int) : ∀ (es es' : List MapEntry) (i j : Nat), MRel β es es' → View.bornAt n es i = some j → i ≤ j ∧ es'.findIdx? (fun e => (e.born : Int) == n) = some (j - i)
  | [], es', i, j, h, e => by simp [View.bornAt] at e
  | x :: es, es', i, j, h, e => by
    obtain ⟨x', m, rfl, a, b⟩ := h.cons_inv
    unfold View.bornAt at e
    rw [List.findIdx?_cons]
    split at e
    · rename_i hb
      cases e
      have : ((x'.born : Int) == n) = true := by rw [a.1]; simpa using hb
      simp [this]
    · rename_i hb
      obtain ⟨h1, h2⟩ := bornAt_run n es m (i + 1) j b e
      have : ((x'.born : Int) == n) = false := by rw [a.1]; simpa using hb
      refine ⟨by omega, ?_⟩
      simp only [this, h2]
      simp; omega

omit hV in
theorem sim_entryStore (h : HRel ok β H w base) {t : TypeId} {m s v m' s' v' : Value} {H' : Heap} (e : View.entryStore H m s v = some H') (hm : VRel β m m') (hs : VRel β s s') (hv : VRel β v v') :
    ∃ w', (Instr.entryStore t m' s' v').run P w = .ok () w' ∧ HRel ok β H' w' base ∧ Post β H w β H' w' := by
  unfold View.entryStore at e
  split at e
  · rename_i r k n
    cases hm with
    | map hb =>
      rename_i u
      cases hs
      split at e
      · rename_i es clock hg
        obtain ⟨es', hw, hr⟩ := h.mapAt w hg hb
        split at e
        · rename_i i hbo
          cases e
          obtain ⟨_, h2⟩ := bornAt_run (β := β) n es es'.toList 0 i hr hbo
          have h3 : es'.findIdx? (fun e => (e.born : Int) == n) = some i := by
            obtain ⟨l⟩ := es'
            simpa using h2
          obtain ⟨a, b⟩ := h.setMap hg hb (es2 := View.putVal v es i) (es2' := es'.modify i fun e => { e with val := v' }) clock (by simpa using putVal2_rel hv es es'.toList i hr)
          refine ⟨_, ?_, a, b⟩
          unfold Instr.entryStore
          simp only [Sem.run_bind, getObj_map hw, Result.andThen_ok, asInt, asIntOf, Sem.run_pure, h3, setObj_map hw]
        · cases e
      · cases e
  · cases e
end
end
end Go.Sp

-- Sp.Ops10
/-! append, copy and the other builtins. -/
namespace Go.Sp
noncomputable section

section
variable {P : Program} {V : View} (hV : ∀ t tv, V.ty.get t = some tv → TyOk P t tv) {ok : FuncId → Nat → Code → Prop} {β : Ren} {H : Heap} {w : World} {base : Nat}

/-- A new block of the executor on a block of the model's that nobody else holds. -/
theorem HRel.reuse (h : HRel ok β H w base) (o : AObj) (x : Obj) (t : Tgt) (ho : base ≤ t.blk) (hlt : t.blk < w.heap.size)
    (hfree : ∀ b o' t', H.get b = some o' → β b = some t' → t'.blk ≠ t.blk) (hr : ORel (β.with H.next t) ok o x t) :
    HRel ok (β.with H.next t) (H.push o) (setObjW w t.blk x) base := by
  have le : β.le (β.with H.next t) := Ren.le_with t h.free
  have hne : ∀ {b o}, H.get b = some o → b ≠ H.next := fun e => by have := h.lt _ _ e; omega
  have other : ∀ {b o}, H.get b = some o → (β.with H.next t) b = β b := fun e => Ren.with_other _ _ (hne e)
  refine ⟨?_, ?_, ?_, ?_, ?_, by simpa using h.le⟩
  · intro b u e
    by_cases hb : b = H.next
    · subst hb; simp [Heap.next_push]
    · rw [Ren.with_other _ _ hb] at e
      have := h.dom _ _ e; simp [Heap.next_push]; omega
  · intro b o' e
    rw [Heap.get_push] at e
    split at e
    · simp [Heap.next_push]; omega
    · have := h.lt _ _ e; simp [Heap.next_push]; omega
  · intro b o' e
    rw [Heap.get_push] at e
    split at e
    · rename_i hb; subst hb; cases e
      exact ⟨t, x, Ren.with_same _ _ _, by simp [setObjW, hlt], hr⟩
    · obtain ⟨u, y, e1, e2, e3⟩ := h.live _ _ e
      refine ⟨u, y, le _ _ e1, ?_, e3.mono le⟩
      have := hfree _ _ _ e e1
      simp only [setObjW, Array.getElem?_setIfInBounds]
      rw [if_neg (fun h => this h.symm)]; exact e2
  · intro b o' u e k eu
    rw [Heap.get_push] at e
    split at e
    · rename_i hb; subst hb
      rw [Ren.with_same] at eu; cases eu
      exact ho
    · rw [other e] at eu
      exact h.own _ _ _ e k eu
  · intro b o' b' o'' u u' e k e' eu eu' eq
    rw [Heap.get_push] at e e'
    split at e
    · rename_i hb
      split at e'
      · rename_i hb'; omega
      · rw [other e'] at eu'
        rw [hb, Ren.with_same] at eu; cases eu
        exact absurd eq.symm (hfree _ _ _ e' eu')
    · rw [other e] at eu
      split at e'
      · rename_i hb'
        rw [hb', Ren.with_same] at eu'; cases eu'
        exact absurd eq (hfree _ _ _ e eu)
      · rw [other e'] at eu'
        exact h.sep _ _ _ _ _ _ e k e' eu eu' eq

/-- What such a block leaves: the block was one of ours. -/
theorem Post.reuse {H0 : Heap} {b0 : Nat} {o0 : AObj} {t0 : Tgt} (h : HRel ok β H0 w base) (hk : H = H0.kill b0) (hb0 : H0.get b0 = some o0) (ho0 : o0.own = true) (ht0 : β b0 = some t0) (o : AObj) (x : Obj) (t : Tgt) (ht : t.blk = t0.blk) :
    Post β H0 w (β.with H.next t) (H.push o) (setObjW w t.blk x) := by
  have hn : H.next = H0.next := by rw [hk]; rfl
  refine ⟨Ren.le_with t (by rw [hn]; exact h.free), by simp [Heap.next_push, hn], ?_, ?_, ?_, ?_, rfl, rfl, rfl, by simp⟩
  · intro b u e
    by_cases hb : b = H.next
    · exact .inr (by omega)
    · rw [Ren.with_other _ _ hb] at e; exact .inl e
  · intro b u e hnn
    by_cases hb : b = H.next
    · subst hb; rw [Ren.with_same] at e; cases e; exact .inr ⟨b0, o0, t0, hb0, ho0, ht0, ht.symm⟩
    · rw [Ren.with_other _ _ hb, hnn] at e; cases e
  · intro b o' hb e
    rw [Heap.get_push, if_neg (by omega), hk, Heap.get_kill] at e
    split at e
    · cases e
    · exact ⟨o', e, fun k => k⟩
  · intro k hk2 hnot
    have := hnot b0 o0 t0 hb0 ho0 ht0
    simp only [setObjW, Array.getElem?_setIfInBounds]
    rw [if_neg (by omega)]

/-- The length of what is appended or copied. -/
theorem lenV_rel {x x' : Value} {n : Nat} (e : View.lenV x = some n) (r : VRel β x x') : (Builtin.lenOf x').run P w = .ok n w := by
  unfold View.lenV at e
  split at e
  · cases e; cases r <;> rfl
  · cases e; cases r; rfl
  · cases e

theorem cells_any {a : Addr} {n : Nat} {l' : List Value} (hl : l'.length = n) (hc : ∀ (j : Nat) (v : Value), l'[j]? = some v → w.cell? (a.add j) = some v) (w2 : World) (hw : w2.heap = w.heap) :
    (loadCells a n).run P w2 = .ok ⟨l'⟩ w2 := by
  have := run_loadCells_list (P := P) w2 a l' (fun j v hj => by
    have := hc j v hj
    unfold World.cell? at this ⊢
    rw [hw]; exact this)
  rw [hl] at this
  exact this

theorem firstN_run (h : HRel ok β H w base) {size n m : Nat} {x x' : Value} {l : List Value} (e : View.firstN H size n x = some l) (hl : View.lenV x = some m) (hn : n ≤ m) (r : VRel β x x') :
    ∃ l', (∀ w2 : World, w2.heap = w.heap → (Builtin.firstCells size n x').run P w2 = .ok ⟨l'⟩ w2) ∧ LRel β l l' ∧ l.length = n * size := by
  unfold View.firstN at e
  split at e
  · rename_i a len c
    obtain ⟨b, o, s⟩ := a
    obtain ⟨rfl, u, cap, o', hb, rfl, hlc, hex, hun, hoff⟩ := r.slice_inv
    simp [View.lenV] at hl
    subst hl
    unfold Builtin.firstCells
    rcases hoff with rfl | h0
    · obtain ⟨l', h1, h2, h3, h4⟩ := h.cellsN (P := P) w e hb
      exact ⟨l', fun w2 hw => cells_any (by rw [← h2.1]; exact h3) h4 w2 hw, h2, h3⟩
    · have hn0 : n = 0 := by omega
      subst hn0
      rw [Nat.zero_mul] at e ⊢
      have hl0 : l = [] := by
        unfold Heap.cellsN at e
        simp only at e
        split at e
        · split at e
          · cases e; simp
          · cases e
        · cases e
      subst hl0
      exact ⟨[], fun w2 _ => by simp [loadCells, loadCellsFrom], LRel.nil β, rfl⟩
  · obtain ⟨rfl, rfl, rfl⟩ := r.slice_none
    split at e
    · rename_i h0
      have := beq_eq h0; subst this
      cases e
      exact ⟨[], fun w2 _ => by simp [Builtin.firstCells], LRel.nil β, by simp⟩
    · cases e
  · rename_i s
    cases r
    split at e
    · rename_i h1
      have := beq_eq h1; subst this
      cases e
      simp [View.lenV] at hl
      subst hl
      refine ⟨((s.extract 0 n).data.toList).map fun b => .int .u8 b.toNat, fun w2 _ => ?_, LRel.map _ _ _ fun b _ => .int _ _, ?_⟩
      · simp only [Builtin.firstCells, Sem.run_pure]
        congr 1
        apply Array.ext'
        simp
      · simp; omega
    · cases e
  · cases e

/-- What is known of the model's append: n elements, whose cells are 'new'. -/
structure AppArgs (P : Program) (β : Ren) (w : World) (ev : TV) (el : TypeId) (n : Nat) (new new' : List Value) : Prop where
  rel : LRel β new new'
  len : new.length = n * ev.size

/-- There is room: the cells are stored behind the slice. -/
theorem append_room (h : HRel ok β H w base) {ev : TV} {base' : Option Addr} {len c n : Nat} {new new' : List Value} {s' v : Value} {H' : Heap}
    (hs : VRel β (.slice base' len c) s') (hr : LRel β new new') (hl : new.length = n * ev.size) (hroom : Nat.ble (len + n) (c / 2) = true)
    (e : View.appendTo H ev base' len c n new = some (v, H')) :
    ∃ a cap w', s' = .slice a len cap ∧ len + n ≤ cap ∧ (match a with | some a => storeCells (a.add (len * ev.size)) new' | none => pure () : Sem Unit).run P w = .ok () w' ∧
      HRel ok β H' w' base ∧ Post β H w β H' w' ∧ VRel β v (.slice a (len + n) cap) := by
  have hroom' : len + n ≤ c / 2 := Nat.le_of_ble_eq_true hroom
  unfold View.appendTo at e
  simp only [hroom] at e
  split at e
  · cases e
    obtain ⟨rfl, rfl, rfl⟩ := hs.slice_none
    have hn : n = 0 := by omega
    subst hn
    exact ⟨none, 0, w, rfl, by omega, rfl, h, Post.refl _ _ _, .snil⟩
  · rename_i a
    obtain ⟨b, o, sp⟩ := a
    obtain ⟨rfl, u, cap, o', hb, rfl, hlc, hex, hun, hoff⟩ := hs.slice_inv
    have hc2 : c / 2 ≤ cap := by
      cases hE : View.exactB c with
      | true => have := hex hE; omega
      | false => exact (hun hE).1
    have hv : VRel β (.slice (some ⟨b, o, none⟩) (len + n) c) (.slice (some ⟨u.blk, o', none⟩) (len + n) cap) := .slice hb (by omega) hex hun hoff
    simp only [View.off] at e
    refine ⟨some ⟨u.blk, o', none⟩, cap, ?_⟩
    split at e
    · rename_i H2 hst
      cases e
      rcases hoff with rfl | h0
      · obtain ⟨w', h1, h2, h3, _⟩ := sim_storeN (P := P) h hst hr hb
        refine ⟨w', rfl, by omega, ?_, h2, h3, hv⟩
        simp only [add_none]
        rw [show o + u.delta + len * ev.size = o + len * ev.size + u.delta by omega]
        exact h1
      · have hn0 : n = 0 := by omega
        subst hn0
        have : new = [] := by cases new with | nil => rfl | cons => simp at hl
        subst this
        have hnew' := LRel.nil_inv hr
        subst hnew'
        -- nothing is stored; the heap is the same
        unfold Heap.storeN at hst
        simp only at hst
        split at hst
        · rename_i g cc hg
          split at hst
          · cases hst
            rw [putFrom_nil]
            obtain ⟨c', el, fz, hw, hfz, hsz, hlen, hd⟩ := h.row w hg hb
            have hx := h.upd hg rfl hb (.cells true g cc) (.cells c' el fz) (.cells hfz hsz hlen hd)
            have hp := Post.upd h hg rfl hb (.cells true g cc) (.cells c' el fz)
            rw [setObjW_self hw] at hx hp
            exact ⟨w, rfl, by omega, by simp [storeCells], hx, hp, hv⟩
          · cases hst
        · cases hst
    · split at e
      · cases e
        have hnew' := LRel.nil_inv hr
        subst hnew'
        exact ⟨w, rfl, by omega, by simp [storeCells], h, Post.refl _ _ _, hv⟩
      · cases e

end
end
end Go.Sp

-- Sp.Ops11
/-! append where the row grows. -/
namespace Go.Sp
noncomputable section

section
variable {P : Program} {V : View} (hV : ∀ t tv, V.ty.get t = some tv → TyOk P t tv) {ok : FuncId → Nat → Code → Prop} {β : Ren} {H : Heap} {w : World} {base : Nat}

/-- Cells written behind others, in a row that is wider. -/
theorem grown_cells {old new old' new' : List Value} (_ : LRel β old old') (hn : LRel β new new') (c' : Array Value) (d : Nat) (hd : ∀ (i : Nat) (v : Value), old[i]? = some v → ∃ v', c'[d + i]? = some v' ∧ VRel β v v')
    (hle : d + old.length + new.length ≤ c'.size) :
    ∀ (i : Nat) (v : Value), (old ++ new)[i]? = some v → ∃ v', (⟨Heap.putFrom c'.toList (d + old.length) new'⟩ : Array Value)[d + i]? = some v' ∧ VRel β v v' := by
  intro i v hi
  have hl := hn.1
  have e3 : (⟨Heap.putFrom c'.toList (d + old.length) new'⟩ : Array Value)[d + i]? = (Heap.putFrom c'.toList (d + old.length) new')[d + i]? := by simp
  rw [e3, putFrom_get _ _ _ (by simp; omega)]
  by_cases h : i < old.length
  · rw [List.getElem?_append_left h] at hi
    rw [if_neg (by omega)]
    obtain ⟨v', e1, e2⟩ := hd i v hi
    exact ⟨v', by simpa using e1, e2⟩
  · rw [List.getElem?_append_right (by omega)] at hi
    have hlt : i - old.length < new.length := by
      rcases Nat.lt_or_ge (i - old.length) new.length with h | h
      · exact h
      · rw [List.getElem?_eq_none h] at hi; cases hi
    rw [if_pos (by omega)]
    obtain ⟨v', e1, e2⟩ := hn.2 _ _ hi
    exact ⟨v', by rw [← e1]; congr 1; omega, e2⟩

theorem firstCells_slice (size n len cap : Nat) (a : Addr) : (Builtin.firstCells size n (.slice (some a) len cap)).run P w = (loadCells a (n * size)).run P w := rfl

theorem cap_ge (w : World) (need old : Nat) (e : TypeId) : need ≤ grownCap w need old e := by
  show need ≤ need + w.tape w.drawn (.appendCap need old e) % (2 ^ 63 - need)
  exact Nat.le_add_right _ _

theorem zeroCells_size (z : Array Value) (n : Nat) : (Builtin.zeroCells z n).size = n * z.size := by simp [Builtin.zeroCells]

/-- A row that grew: the new block. -/
theorem grown_new (h : HRel ok β H w base) {ev : TV} {need : Nat} {cs cs' : List Value} (hr : LRel β cs cs') (hl : cs.length = need * ev.size) (hz : ev.zero.cells.size = ev.size) (el : TypeId) (old : Nat) :
    ∃ β' , HRel ok β' (H.push (.cells true ev.size cs)) (w.drew.alloc (.cells (cs'.toArray ++ Builtin.zeroCells ev.zero.cells (grownCap w need old el - need)) el)) base ∧
      Post β H w β' (H.push (.cells true ev.size cs)) (w.drew.alloc (.cells (cs'.toArray ++ Builtin.zeroCells ev.zero.cells (grownCap w need old el - need)) el)) ∧
      VRel β' (.slice (some ⟨H.next, 0, none⟩) need (View.atLeast need)) (.slice (some ⟨w.heap.size, 0, none⟩) need (grownCap w need old el)) := by
  have hd : HRel ok β H w.drew base := h.congr rfl
  have hcap := cap_ge w need old el
  have hsz : (cs'.toArray ++ Builtin.zeroCells ev.zero.cells (grownCap w need old el - need)).size = grownCap w need old el * ev.size := by
    have h1 := hr.1
    have h2 : need * ev.size + (grownCap w need old el - need) * ev.size = grownCap w need old el * ev.size := by rw [← Nat.add_mul]; congr 1; omega
    rw [Array.size_append, zeroCells_size, hz]
    simp; omega
  have t : Tgt := ⟨w.heap.size, 0, grownCap w need old el * ev.size, ev.size⟩
  have hor : ORel β ok (.cells true ev.size cs) (.cells (cs'.toArray ++ Builtin.zeroCells ev.zero.cells (grownCap w need old el - need)) el) ⟨w.heap.size, 0, grownCap w need old el * ev.size, ev.size⟩ := by
    refine .cells (fun _ => ⟨rfl, rfl⟩) hsz ?_ ?_
    · rw [hsz]; simp only [Nat.zero_add]; rw [hl]; exact Nat.mul_le_mul_right _ hcap
    · intro i v hi
      obtain ⟨v', e1, e2⟩ := hr.2 i v hi
      refine ⟨v', ?_, e2⟩
      have hlt : i < cs'.length := by
        rcases Nat.lt_or_ge i cs'.length with h | h
        · exact h
        · rw [List.getElem?_eq_none h] at e1; cases e1
      rw [Nat.zero_add, Array.getElem?_append_left (by simpa using hlt)]
      simpa using e1
  refine ⟨_, hd.push _ _ _ rfl hor, ?_, ?_⟩
  · have := Post.push hd (.cells true ev.size cs) (.cells (cs'.toArray ++ Builtin.zeroCells ev.zero.cells (grownCap w need old el - need)) el) ⟨w.heap.size, 0, grownCap w need old el * ev.size, ev.size⟩ rfl
    exact ⟨this.ext, this.next, this.fresh, this.blk, this.old, this.keep, this.os, this.tape, this.output, this.size⟩
  · exact VRel.slice_atLeast (Ren.with_same _ _ _) hcap hcap (by simp) (.inl rfl)

/-- The row grows: into a new block, or, if the model has room, behind the old cells. -/
theorem append_grow (h : HRel ok β H w base) {ev : TV} {el : TypeId} {base' : Option Addr} {len c n : Nat} {new new' : List Value} {s' v : Value} {H' : Heap}
    (hs : VRel β (.slice base' len c) s') (hr : LRel β new new') (hl : new.length = n * ev.size) (hroom : Nat.ble (len + n) (c / 2) = false)
    (e : View.appendTo H ev base' len c n new = some (v, H')) :
    len + n ≤ 1073741824 ∧ ev.bytes ≤ 65536 ∧ ev.zero.cells.size = ev.size ∧ ∃ a cap, s' = .slice a len cap ∧ (a = none → len = 0 ∧ cap = 0 ∧ 0 < n) ∧
      ((len + n ≤ cap ∧ (∃ x, a = some x) ∧ ∃ β' w', (match a with | some a => storeCells (a.add (len * ev.size)) new' | none => pure () : Sem Unit).run P w = .ok () w' ∧
          HRel ok β' H' w' base ∧ Post β H w β' H' w' ∧ VRel β' v (.slice a (len + n) cap)) ∨
       (cap < len + n ∧ ∃ old' β', (∀ w2 : World, w2.heap = w.heap → (Builtin.firstCells ev.size len s').run P w2 = .ok ⟨old'⟩ w2) ∧
          HRel ok β' H' (w.drew.alloc (.cells ((old' ++ new').toArray ++ Builtin.zeroCells ev.zero.cells (grownCap w (len + n) cap el - (len + n))) el)) base ∧
          Post β H w β' H' (w.drew.alloc (.cells ((old' ++ new').toArray ++ Builtin.zeroCells ev.zero.cells (grownCap w (len + n) cap el - (len + n))) el)) ∧
          VRel β' v (.slice (some ⟨w.heap.size, 0, none⟩) (len + n) (grownCap w (len + n) cap el)))) := by
  have hroom' : ¬ len + n ≤ c / 2 := by
    intro hh
    have := Nat.ble_eq_true_of_le hh
    rw [hroom] at this; cases this
  unfold View.appendTo at e
  simp only [hroom] at e
  split at e
  · cases e
  · rename_i hb
    simp only [Bool.and_eq_true] at hb
    obtain ⟨⟨⟨h1, h2⟩, h3⟩, h4⟩ := hb
    have h1 : len + n ≤ 1073741824 := Nat.le_of_ble_eq_true h1
    have h2 : ev.bytes ≤ 65536 := Nat.le_of_ble_eq_true h2
    have h3 := beq_eq h3
    refine ⟨h1, h2, h3, ?_⟩
    split at e
    · cases e
      obtain ⟨rfl, rfl, rfl⟩ := hs.slice_none
      refine ⟨none, 0, rfl, fun _ => ⟨rfl, rfl, by omega⟩, .inr ⟨by omega, [], ?_⟩⟩
      obtain ⟨β', a, b, d⟩ := grown_new h (need := 0 + n) hr (by rw [hl]; simp) h3 el 0
      exact ⟨β', fun _ _ => by simp [Builtin.firstCells], a, b, d⟩
    · rename_i a
      obtain ⟨b, o, sp⟩ := a
      obtain ⟨rfl, u, cap, o', hb, rfl, hlc, hex, hun, hoff⟩ := hs.slice_inv
      split at e
      · cases e
      · rename_i old hold
        obtain ⟨old', g1, g2, g3, g4⟩ := h.cellsN (P := P) w hold hb
        -- where the old cells are read
        have hread : ∀ w2 : World, w2.heap = w.heap → (Builtin.firstCells ev.size len (.slice (some ⟨u.blk, o', none⟩) len cap)).run P w2 = .ok ⟨old'⟩ w2 := by
          intro w2 hw2
          rw [firstCells_slice]
          rcases hoff with rfl | h0
          · obtain ⟨old2, k1, k2, k3, k4⟩ := (h.congr hw2).cellsN (P := P) w2 hold hb
            have : (loadCells ⟨u.blk, o + u.delta, none⟩ (len * ev.size)).run P w2 = .ok ⟨old'⟩ w2 := by
              have hlen : old'.length = len * ev.size := by rw [← g2.1]; exact g3
              have := run_loadCells_list (P := P) w2 ⟨u.blk, o + u.delta, none⟩ old' (fun j v hj => by
                have := g4 j v hj
                unfold World.cell? at this ⊢
                rw [hw2]; exact this)
              rw [hlen] at this
              exact this
            exact this
          · have hl0 : len = 0 := by omega
            subst hl0
            have : old' = [] := by
              have := g2.1; rw [g3] at this
              cases old' with | nil => rfl | cons => simp at this
            subst this
            simp [loadCells, loadCellsFrom]
        refine ⟨some ⟨u.blk, o', none⟩, cap, rfl, fun h => (by cases h), ?_⟩
        have hcs : (old ++ new).length = (len + n) * ev.size := by rw [List.length_append, g3, hl, Nat.add_mul]
        split at e
        · -- the capacity is known
          rename_i hE
          cases e
          have hce := hex hE
          refine .inr ⟨by omega, old', ?_⟩
          obtain ⟨β', a, b', d⟩ := grown_new h (need := len + n) (g2.append hr) hcs h3 el cap
          exact ⟨β', hread, a, b', d⟩
        · rename_i hE
          obtain ⟨hu1, hu2⟩ := hun hE
          split at e
          case h_2 => cases e
          rename_i g cc hg
          split at e
          case h_2 => cases e
          rename_i hgb
          simp only [Bool.and_eq_true] at hgb
          obtain ⟨hg1, hg2⟩ := hgb
          cases e
          have hg1 := beq_eq hg1
          obtain ⟨c', el', fz, hw, hfz, hsz, hlen, hdd⟩ := h.row w hg hb
          obtain ⟨hfz1, hfz2⟩ := hfz rfl
          subst hfz1
          have hesz : ev.size = u.esz := by omega
          have hk := h.kill b
          by_cases hfit : len + n ≤ cap
          · -- the model has room
            refine .inl ⟨hfit, ⟨_, rfl⟩, ?_⟩
            have hcap0 : cap ≠ 0 := by omega
            have ho' : o' = o + u.delta := by rcases hoff with h | h; exact h; exact absurd h hcap0
            subst ho'
            have hbound : o + u.delta + (len + n) * ev.size ≤ c'.size := by
              have : (len + n) * ev.size ≤ cap * u.esz := by rw [hesz]; exact Nat.mul_le_mul_right _ hfit
              omega
            have hnl : new'.length = n * ev.size := by rw [← hr.1]; exact hl
            have hall : new'.all oneCell = true := by
              rw [List.all_eq_true] at hg2 ⊢
              intro x hx
              obtain ⟨i, hi, rfl⟩ := List.getElem_of_mem hx
              obtain ⟨y, e1, e2⟩ := hr.2 i new[i] (List.getElem?_eq_getElem (by have := hr.1; omega))
              rw [List.getElem?_eq_getElem hi] at e1
              cases e1
              rw [e2.oneCell]
              exact hg2 _ (List.getElem_mem _)
            have hmul : (len + n) * ev.size = len * ev.size + n * ev.size := Nat.add_mul _ _ _
            have hrun := run_storeCells (P := P) new' w u.blk (o + u.delta + len * ev.size) 0 c' el' hw (by omega) hall
            let t : Tgt := ⟨u.blk, o + u.delta, c'.size, ev.size⟩
            have hub : base ≤ u.blk := h.own _ _ _ hg rfl hb
            have hult := h.lt_size hg hb
            have hfree : ∀ b1 o1 t1, (H.kill b).get b1 = some o1 → β b1 = some t1 → t1.blk ≠ t.blk := by
              intro b1 o1 t1 e1 e2 e3
              rw [Heap.get_kill] at e1
              split at e1
              · cases e1
              · rename_i hne
                exact hne (h.sep _ _ _ _ _ _ hg rfl e1 hb e2 e3.symm).symm
            have hcells := grown_cells g2 hr c' (o + u.delta) (by
              intro i v hi
              obtain ⟨v', e1, e2⟩ := g2.2 i v hi
              have e3 := g4 i v' e1
              rw [add_none, cell_row hw] at e3
              exact ⟨v', e3, e2⟩) (by rw [g3, hl]; omega)
            rw [g3] at hcells
            have hle : β.le (β.with (H.kill b).next t) := Ren.le_with t hk.free
            have hor : ORel (β.with (H.kill b).next t) ok (.cells true ev.size (old ++ new)) (.cells ⟨Heap.putFrom c'.toList (o + u.delta + len * ev.size + 0) new'⟩ el' (0, 0)) t := by
              refine .cells (fun _ => ⟨rfl, rfl⟩) ?_ ?_ ?_
              · have := putFrom_length c'.toList (o + u.delta + len * ev.size + 0) new' (by simp; omega)
                simpa using this
              · have := putFrom_length c'.toList (o + u.delta + len * ev.size + 0) new' (by simp; omega)
                simp only [hcs]
                show o + u.delta + (len + n) * ev.size ≤ (Heap.putFrom c'.toList (o + u.delta + len * ev.size + 0) new').length
                rw [this]; simpa using hbound
              · intro i v hi
                obtain ⟨v', e1, e2⟩ := hcells i v hi
                exact ⟨v', e1, e2.mono hle⟩
            have hnext : H.next = (H.kill b).next := rfl
            refine ⟨_, _, ?_, hk.reuse _ _ t hub hult hfree hor, Post.reuse h rfl hg rfl hb _ _ t rfl, ?_⟩
            · simp only [add_none]; exact hrun
            · have h5 : (0 : Nat) + t.delta + cap * t.esz ≤ t.csz := by
                show 0 + (o + u.delta) + cap * ev.size ≤ c'.size
                rw [hesz]; omega
              exact VRel.slice_atLeast (t := t) (Ren.with_same _ _ _) hfit hfit h5 (.inl (by show o + u.delta = 0 + (o + u.delta); omega))
          · refine .inr ⟨by omega, old', ?_⟩
            obtain ⟨β', a, b', d⟩ := grown_new hk (need := len + n) (g2.append hr) hcs h3 el cap
            exact ⟨β', hread, a, (Post.kill b).trans h b', d⟩
end
end
end Go.Sp

-- Sp.Ops12
/-! The builtins, as the model runs them. -/
namespace Go.Sp
noncomputable section

section
variable {P : Program} {V : View} (hV : ∀ t tv, V.ty.get t = some tv → TyOk P t tv) {ok : FuncId → Nat → Code → Prop} {β : Ren} {H : Heap} {w : World} {base : Nat}
include hV

theorem elemV_run {t : TypeId} {ev : TV} (h : V.elemV t = some ev) : ∃ el, P.underlying t = some (.slice el) ∧ V.ty.get el = some ev := by
  unfold View.elemV at h
  split at h
  · rename_i tv ht
    have hu := (hV t tv ht).under
    split at h
    · rename_i e hdsc
      rw [hdsc] at hu
      exact ⟨e, hu, h⟩
    · cases h
  · cases h

/-- What the model's append comes to, out of its operands' parts. -/
theorem append_parts (h : HRel ok β H w base) {t t2 el : TypeId} {ev tv2 : TV} (hu : P.underlying t = some (.slice el)) (hev : V.ty.get el = some ev) (ht2 : V.ty.get t2 = some tv2)
    {base' : Option Addr} {len c n : Nat} {new new' : List Value} {s' x' v : Value} {H' : Heap}
    (hs : VRel β (.slice base' len c) s') (hr : LRel β new new') (hl : new.length = n * ev.size) (e : View.appendTo H ev base' len c n new = some (v, H'))
    (ts : Array TypeId) (args : Array Value) (ty : TypeId) (g0 : ts[0]? = some t) (g1 : ts[1]? = some t2) (g2 : args[0]? = some s') (g3 : args[1]? = some x')
    (hx : (((∃ k, tv2.desc = .slice k) ∨ tv2.desc = .string) ∧ (Builtin.lenOf x').run P w = .ok n w ∧ ∀ w2 : World, w2.heap = w.heap → (Builtin.firstCells ev.size n x').run P w2 = .ok ⟨new'⟩ w2) ∨
      (∃ k k2 i, tv2.desc = .int k ∧ x' = .int k2 i ∧ 0 ≤ i ∧ i ≤ 1073741824 ∧ ev.bytes ≤ 65536 ∧ n = i.toNat ∧ new' = View.reps ev.zero.cells.toList n ∧ ev.zero.cells.size = ev.size ∧ 0 < ev.size)) :
    ∃ β' w' v', (Builtin.append_ ts ty args).run P w = .ok v' w' ∧ HRel ok β' H' w' base ∧ VRel β' v v' ∧ Post β H w β' H' w' := by
  have hu2 := (hV t2 tv2 ht2).under
  obtain ⟨i, hi, hib⟩ := ty_info hV w hev
  obtain ⟨i0, hi0, _⟩ := (hV el ev hev).info
  have hi2 : ∀ w2, (typeInfo el).run P w2 = .ok i w2 := by
    intro w2
    simp [typeInfo, hi0] at hi ⊢
    exact hi
  -- the end, where the number of elements and the cells are known
  have fin : ∀ (appended : Sem (Array Value)) (z : Prop) [Decidable z] (bad : Sem Unit) (bad2 : Sem Unit), (∀ w2 : World, w2.heap = w.heap → appended.run P w2 = .ok ⟨new'⟩ w2) →
      ∃ a cap, s' = .slice a len cap ∧ ∃ β' w' v', HRel ok β' H' w' base ∧ VRel β' v v' ∧ Post β H w β' H' w' ∧
      ((len + n ≤ cap ∧ (match a with | some a => storeCells (a.add (len * ev.size)) new' | none => pure () : Sem Unit).run P w = .ok () w' ∧ v' = .slice a (len + n) cap) ∨
       (¬ (len + n ≤ cap) ∧ ¬ (((len + n : Nat) : Int) > IntKind.i64.max) ∧ ¬ (Builtin.nextslicecap (len + n) cap * i.bytes > 2 ^ 48) ∧ ∃ old', (Builtin.firstCells ev.size len s').run P w.drew = .ok ⟨old'⟩ w.drew ∧
        v' = .slice (some ⟨w.heap.size, 0, none⟩) (len + n) (grownCap w (len + n) cap el) ∧
        w' = w.drew.alloc (.cells ((old' ++ new').toArray ++ Builtin.zeroCells ev.zero.cells (grownCap w (len + n) cap el - (len + n))) el))) := by
    intro appended z _ bad bad2 hap
    cases hroom : Nat.ble (len + n) (c / 2) with
    | true =>
      obtain ⟨a, cap, w', rfl, hle, hst, h1, h2, h3⟩ := append_room (P := P) h hs hr hl hroom e
      exact ⟨a, cap, rfl, β, w', _, h1, h3, h2, .inl ⟨hle, hst, rfl⟩⟩
    | false =>
      obtain ⟨b1, b2, b3, a, cap, rfl, hnil, hcase⟩ := append_grow (P := P) (el := el) h hs hr hl hroom e
      refine ⟨a, cap, rfl, ?_⟩
      rcases hcase with ⟨hle, ⟨x, rfl⟩, β', w', hst, h1, h2, h3⟩ | ⟨hlt, old', β', hread, h1, h2, h3⟩
      · exact ⟨β', w', _, h1, h3, h2, .inl ⟨hle, hst, rfl⟩⟩
      · refine ⟨β', _, _, h1, h3, h2, .inr ⟨by omega, ?_, ?_, old', hread w.drew rfl, rfl, rfl⟩⟩
        · have : IntKind.i64.max = 9223372036854775807 := by decide
          rw [this]; omega
        · have hfit : Builtin.nextslicecap (len + n) cap * i.bytes ≤ 281474976710656 := by
            refine growslice_fits hlt ?_
            rw [hib]
            exact Nat.le_trans (Nat.mul_le_mul b1 b2) (by decide)
          rw [show (2 : Nat) ^ 48 = 281474976710656 by decide]; omega
  have hch : ∀ cap, (choose (.appendCap (len + n) cap el)).run P w = .ok (grownCap w (len + n) cap el) w.drew := by
    intro cap; simp [Question.forced, grownCap]
  have hal : ∀ (cap : Nat) (old' : List Value), (w.drew.alloc (.cells ((⟨old'⟩ : Array Value) ++ ⟨new'⟩ ++ Builtin.zeroCells ev.zero.cells (grownCap w (len + n) cap el - (len + n))) el)) = (w.drew.alloc (.cells ((old' ++ new').toArray ++ Builtin.zeroCells ev.zero.cells (grownCap w (len + n) cap el - (len + n))) el)) := by
    intro cap old'; congr 2; simp
  have hzr : ∀ w2, (zeroValue el).run P w2 = .ok ev.zero w2 := fun w2 => ty_zero hV w2 hev
  unfold Builtin.append_
  simp only [g0, g1, g2, g3, Sem.run_bind, run_underlying hu, Result.andThen_ok]
  rcases hx with ⟨hd, hlen, hap⟩ | ⟨k, k2, j, hd, rfl, j0, j1, j2, rfl, rfl, j3, j4⟩
  · obtain ⟨a, cap, rfl, β', w', v', r1, r2, r3, r4⟩ := fin (Builtin.firstCells ev.size n x') True (pure ()) (pure ()) hap
    refine ⟨β', w', v', ?_, r1, r2, r3⟩
    simp only [Sem.run_bind, ty_size hV w hev, Result.andThen_ok, run_underlying hu2, Sem.run_pure]
    have hdd : ∀ (F : Bool → Sem Value) (r : Result Value), (F false).run P w = r → (F (match tv2.desc with | .int _ => true | _ => false)).run P w = r := by
      intro F r hF
      rcases hd with ⟨k, hd⟩ | hd <;> (rw [hd]; exact hF)
    rcases r4 with ⟨hle, hst, rfl⟩ | ⟨hle, h63, h48, old', hread, rfl, rfl⟩
    · rcases hd with ⟨k, hd⟩ | hd
      all_goals
        rw [hd]
        simp only [Bool.false_eq_true, if_false, hlen, Sem.run_bind, Result.andThen_ok, hle, if_true, Bool.not_false, hap w rfl]
        cases a with
        | none => simp only [Sem.run_pure] at hst ⊢; cases hst; rfl
        | some a => simp only [Sem.run_bind] at hst ⊢; rw [hst]; rfl
    · rcases hd with ⟨k, hd⟩ | hd
      all_goals
        rw [hd]
        simp only [Bool.false_eq_true, if_false, hlen, Sem.run_bind, Result.andThen_ok, hle, Bool.not_false, if_true, hi2, h63, h48, false_and, hch, run_askRoom, hread, hap w.drew rfl, hzr, newRow, run_newObj, Sem.run_pure]
        rw [← hal cap old']
        rfl
  · have wj : IntKind.i64.wrap j = j := wrap_small j0 j1
    have hapz : ∀ w2 : World, w2.heap = w.heap → (if j.toNat * ev.size = 0 then pure #[] else do pure (Builtin.zeroCells (← zeroValue el).cells j.toNat) : Sem (Array Value)).run P w2 = .ok ⟨View.reps ev.zero.cells.toList j.toNat⟩ w2 := by
      intro w2 _
      by_cases h0 : j.toNat * ev.size = 0
      · rw [if_pos h0]
        have hn : j.toNat = 0 := by rcases Nat.mul_eq_zero.1 h0 with h | h <;> omega
        rw [hn]; rfl
      · rw [if_neg h0]
        simp only [Sem.run_bind, hzr, Result.andThen_ok, Sem.run_pure]
        congr 1
        exact zeros_eq _ (by omega) _
    obtain ⟨a, cap, rfl, β', w', v', r1, r2, r3, r4⟩ := fin _ True (pure ()) (pure ()) hapz
    refine ⟨β', w', v', ?_, r1, r2, r3⟩
    have hmul : ¬ (j * (i.bytes : Int) > 2 ^ 48) := by
      rw [hib, Int.mul_comm, show (2 : Int) ^ 48 = 281474976710656 by decide]
      have := mul_small j2 j0 j1
      omega
    have hneg : ¬ (j < 0) := by omega
    simp only [Sem.run_bind, ty_size hV w hev, Result.andThen_ok, run_underlying hu2, Sem.run_pure, hd, if_true, asInt, asIntOf, wj, hneg, if_false, hi2, hmul]
    rcases r4 with ⟨hle, hst, rfl⟩ | ⟨hle, h63, h48, old', hread, rfl, rfl⟩
    · have hz := hapz w rfl
      by_cases h0 : j.toNat * ev.size = 0
      · simp only [hle, if_true, Bool.not_true, Bool.false_eq_true, if_false, h0, Sem.run_bind, Sem.run_pure, Result.andThen_ok] at hz ⊢
        injection hz with hz1
        cases a with
        | none => simp only [Sem.run_pure] at hst ⊢; cases hst; rfl
        | some a =>
          have hz2 : View.reps ev.zero.cells.toList j.toNat = [] := (congrArg Array.toList hz1).symm
          rw [hz2] at hst
          simp only [Sem.run_bind] at hst ⊢; rw [hst]; rfl
      · simp only [hle, if_true, Bool.not_true, Bool.false_eq_true, if_false, h0, Sem.run_bind, hzr, Result.andThen_ok] at hz ⊢
        injection hz with hz1
        cases a with
        | none => simp only [Sem.run_pure] at hst ⊢; cases hst; rfl
        | some a => simp only [Sem.run_bind] at hst ⊢; rw [hz1]; simp only [Sem.run_pure, Result.andThen_ok]; rw [hst]; rfl
    · have hz := hapz w.drew rfl
      by_cases h0 : j.toNat * ev.size = 0
      · simp only [Bool.not_true, Bool.false_eq_true, if_false, hle, hi2, h63, h48, false_and, Sem.run_bind, hch, Result.andThen_ok, run_askRoom, hread, h0, if_true, hzr, newRow, run_newObj, Sem.run_pure] at hz ⊢
        injection hz with hz1
        rw [hz1, ← hal cap old']
        rfl
      · simp only [Bool.not_true, Bool.false_eq_true, if_false, hle, hi2, h63, h48, false_and, Sem.run_bind, hch, Result.andThen_ok, run_askRoom, hread, h0, hzr, newRow, run_newObj, Sem.run_pure] at hz ⊢
        injection hz with hz1
        rw [hz1, ← hal cap old']
        rfl
end
end
end Go.Sp

-- Sp.Ops13
/-! The other builtins. -/
namespace Go.Sp
noncomputable section

theorem LRel.arr2 {β : Ren} {x y : Value} {l : List Value} {a : Array Value} (h : LRel β (x :: y :: l) a.toList) : ∃ x' y', a[0]? = some x' ∧ a[1]? = some y' ∧ VRel β x x' ∧ VRel β y y' := by
  obtain ⟨x', e1, r1⟩ := h.2 0 x (by simp)
  obtain ⟨y', e2, r2⟩ := h.2 1 y (by simp)
  exact ⟨x', y', by simpa using e1, by simpa using e2, r1, r2⟩
theorem LRel.arr1 {β : Ren} {x : Value} {l : List Value} {a : Array Value} (h : LRel β (x :: l) a.toList) : ∃ x', a[0]? = some x' ∧ VRel β x x' := by
  obtain ⟨x', e1, r1⟩ := h.2 0 x (by simp)
  exact ⟨x', by simpa using e1, r1⟩
theorem arr_of_list1 {ts : Array TypeId} {t : TypeId} {l : List TypeId} (h : ts.toList = t :: l) : ts[0]? = some t := by
  have : ts.toList[0]? = some t := by rw [h]; rfl
  simpa using this
theorem arr_of_list2 {ts : Array TypeId} {t u : TypeId} {l : List TypeId} (h : ts.toList = t :: u :: l) : ts[1]? = some u := by
  have : ts.toList[1]? = some u := by rw [h]; rfl
  simpa using this

section
variable {P : Program} {V : View} (hV : ∀ t tv, V.ty.get t = some tv → TyOk P t tv) {ok : FuncId → Nat → Code → Prop} {β : Ren} {H : Heap} {w : World} {base : Nat}
include hV

theorem sim_append (h : HRel ok β H w base) {ts : Array TypeId} {args : List Value} {args' : Array Value} {ty : TypeId} {v : Value} {H' : Heap} (e : V.append H ts.toList args = some (v, H')) (hr : LRel β args args'.toList) :
    ∃ β' w' v', (Builtin.append_ ts ty args').run P w = .ok v' w' ∧ HRel ok β' H' w' base ∧ VRel β' v v' ∧ Post β H w β' H' w' := by
  unfold View.append at e
  split at e
  · rename_i t t2 tl base' len c x al hts
    have g0 := arr_of_list1 hts
    have g1 := arr_of_list2 hts
    obtain ⟨s', x', g2, g3, rs, rx⟩ := hr.arr2
    split at e
    · rename_i ev tv2 n hel ht2 hln
      obtain ⟨el, hu, hev⟩ := elemV_run hV hel
      have key : (∃ k, tv2.desc = .slice k) ∨ tv2.desc = .string → (match View.firstN H ev.size n x with | some new => View.appendTo H ev base' len c n new | none => none) = some (v, H') →
          ∃ β' w' v', (Builtin.append_ ts ty args').run P w = .ok v' w' ∧ HRel ok β' H' w' base ∧ VRel β' v v' ∧ Post β H w β' H' w' := by
        intro hd e
        split at e
        · rename_i new hnew
          obtain ⟨new', k1, k2, k3⟩ := firstN_run (P := P) h hnew hln (Nat.le_refl _) rx
          exact append_parts hV h hu hev ht2 rs k2 k3 e ts args' ty g0 g1 g2 g3 (.inl ⟨hd, lenV_rel hln rx, k1⟩)
        · cases e
      split at e
      · rename_i k hd
        exact key (.inl ⟨_, hd⟩) e
      · rename_i hd
        exact key (.inr hd) e
      · cases e
    · rename_i ev tv2 hel ht2 hln
      obtain ⟨el, hu, hev⟩ := elemV_run hV hel
      split at e
      · rename_i k k2 i hd
        cases rx
        split at e
        · rename_i hb
          simp only [Bool.and_eq_true, decide_eq_true_eq] at hb
          obtain ⟨⟨⟨⟨b1, b2⟩, b3⟩, b4⟩, b5⟩ := hb
          have b3 : ev.bytes ≤ 65536 := Nat.le_of_ble_eq_true b3
          have b4 := beq_eq b4
          have b5 : 0 < ev.size := Nat.le_of_ble_eq_true b5
          have hz := (((VRel.plain (β := β) 10 _ (hV el ev hev).zero)).cells).reps i.toNat
          refine append_parts hV h hu hev ht2 rs hz ?_ e ts args' ty g0 g1 g2 g3 (.inr ⟨_, _, _, hd, rfl, b1, b2, b3, rfl, rfl, b4, b5⟩)
          rw [reps_length]; simp [b4]
        · cases e
      · cases e
    · cases e
  · cases e

theorem sim_copy (h : HRel ok β H w base) {ts : Array TypeId} {args : List Value} {args' : Array Value} {ty : TypeId} {v : Value} {H' : Heap} (e : V.copy H ts.toList args = some (v, H')) (hr : LRel β args args'.toList) :
    ∃ w' v', (Builtin.copy_ ts ty args').run P w = .ok v' w' ∧ HRel ok β H' w' base ∧ VRel β v v' ∧ Post β H w β H' w' := by
  unfold View.copy at e
  split at e
  · rename_i t tl base' dlen c x al hts
    have g0 := arr_of_list1 hts
    obtain ⟨s', x', g2, g3, rs, rx⟩ := hr.arr2
    split at e
    · rename_i ev m hel hln
      obtain ⟨el, hu, hev⟩ := elemV_run hV hel
      dsimp only at e
      split at e
      · rename_i new hnew
        obtain ⟨new', k1, k2, k3⟩ := firstN_run (P := P) h hnew hln (Nat.min_le_left _ _) rx
        unfold Builtin.copy_
        simp only [g0, g2, g3, Sem.run_bind, run_underlying hu, Result.andThen_ok]
        split at e
        · cases e
          obtain ⟨rfl, rfl, rfl⟩ := rs.slice_none
          refine ⟨w, goInt (Nat.min m 0), ?_, h, .int _ _, Post.refl _ _ _⟩
          simp only [Sem.run_bind, lenV_rel hln rx, Result.andThen_ok, ty_size hV w hev, k1 w rfl, Sem.run_pure]
        · cases e
          have := LRel.nil_inv k2; subst this
          rename_i a
          obtain ⟨b, o, sp⟩ := a
          obtain ⟨rfl, u, cap, o', hb, rfl, hlc, hex, hun, hoff⟩ := rs.slice_inv
          refine ⟨w, goInt (Nat.min m dlen), ?_, h, .int _ _, Post.refl _ _ _⟩
          simp only [Sem.run_bind, lenV_rel hln rx, Result.andThen_ok, ty_size hV w hev, k1 w rfl, Sem.run_pure, storeCells]
        · rename_i a y ys
          obtain ⟨b, o, sp⟩ := a
          obtain ⟨rfl, u, cap, o', hb, rfl, hlc, hex, hun, hoff⟩ := rs.slice_inv
          split at e
          · rename_i H2 hst
            cases e
            have ho : o' = o + u.delta := by
              rcases hoff with h1 | h0
              · exact h1
              · exfalso
                have : dlen = 0 := by omega
                subst this
                simp at k3
            subst ho
            obtain ⟨w', h1, h2, h3, _⟩ := sim_storeN (P := P) h hst k2 hb
            refine ⟨w', goInt (Nat.min m dlen), ?_, h2, .int _ _, h3⟩
            simp only [Sem.run_bind, lenV_rel hln rx, Result.andThen_ok, ty_size hV w hev, k1 w rfl, h1, Sem.run_pure]
          · cases e
      · cases e
    · cases e
  · cases e

theorem sim_cap {ts : Array TypeId} {args : List Value} {args' : Array Value} {ty : TypeId} {v : Value} (e : V.cap ts.toList args = some v) (hr : LRel β args args'.toList) :
    ∃ v', (Builtin.cap_ ts ty args').run P w = .ok v' w ∧ VRel β v v' := by
  unfold View.cap at e
  split at e
  · rename_i t tl a len c al hts
    have g0 := arr_of_list1 hts
    obtain ⟨s', g2, rs⟩ := hr.arr1
    unfold Builtin.cap_
    split at e
    · rename_i ev hel
      obtain ⟨el, hu, hev⟩ := elemV_run hV hel
      cases e
      obtain ⟨rfl, rfl, rfl⟩ := rs.slice_none
      exact ⟨goInt 0, by simp only [g0, g2, Sem.run_bind, run_underlying hu, Result.andThen_ok, Sem.run_pure]; rfl, .int _ _⟩
    · rename_i ev a hel
      obtain ⟨el, hu, hev⟩ := elemV_run hV hel
      split at e
      · rename_i hE
        cases e
        obtain ⟨b, o, sp⟩ := a
        obtain ⟨rfl, u, cap, o', hb, rfl, hlc, hex, hun, hoff⟩ := rs.slice_inv
        have := hex hE
        subst this
        exact ⟨goInt (c / 2 : Nat), by simp only [g0, g2, Sem.run_bind, run_underlying hu, Result.andThen_ok, Sem.run_pure], .int _ _⟩
      · cases e
    · cases e
  · cases e

theorem sim_len (h : HRel ok β H w base) {ts : Array TypeId} {args : List Value} {args' : Array Value} {ty : TypeId} {v : Value} (e : V.len H ts.toList args = some v) (hr : LRel β args args'.toList) :
    ∃ v', (Builtin.len_ ts ty args').run P w = .ok v' w ∧ VRel β v v' := by
  unfold View.len at e
  split at e
  · rename_i t tl x al hts
    have g0 := arr_of_list1 hts
    obtain ⟨x', g2, rx⟩ := hr.arr1
    unfold Builtin.len_
    split at e
    · cases e
    · rename_i tv ht
      have hu := (hV t tv ht).under
      split at e
      · rename_i s hd
        cases e; cases rx; rw [hd] at hu
        exact ⟨goInt s.size, by simp only [g0, g2, Sem.run_bind, run_underlying hu, Result.andThen_ok, Sem.run_pure], .int _ _⟩
      · rename_i k a n c hd
        cases e; rw [hd] at hu
        cases rx <;> exact ⟨_, by simp only [g0, g2, Sem.run_bind, run_underlying hu, Result.andThen_ok, Sem.run_pure]; rfl, .int _ _⟩
      · rename_i n k hd
        cases e; rw [hd] at hu
        exact ⟨goInt n, by simp only [g0, g2, Sem.run_bind, run_underlying hu, Result.andThen_ok, Sem.run_pure], .int _ _⟩
      · rename_i k e2 hd
        cases e; cases rx; rw [hd] at hu
        exact ⟨goInt 0, by simp only [g0, g2, Sem.run_bind, run_underlying hu, Result.andThen_ok, Sem.run_pure], .int _ _⟩
      · rename_i k e2 r hd
        rw [hd] at hu
        cases rx with
        | map hb =>
          split at e
          · rename_i own es clock hg
            cases e
            obtain ⟨es', hw, hm⟩ := h.mapAt w hg hb
            have : es'.size = es.length := by have := hm.1; simpa using this.symm
            refine ⟨goInt es'.size, by simp only [g0, g2, Sem.run_bind, run_underlying hu, Result.andThen_ok, getObj_map hw, Sem.run_pure], ?_⟩
            rw [this]; exact .int _ _
          · cases e
      · cases e
  · cases e
end
end
end Go.Sp

-- Sp.Ops14
/-! clear, delete, min, max; calls of builtins. -/
namespace Go.Sp
noncomputable section

section
variable {P : Program} {V : View} (hV : ∀ t tv, V.ty.get t = some tv → TyOk P t tv) {ok : FuncId → Nat → Code → Prop} {β : Ren} {H : Heap} {w : World} {base : Nat}

theorem LRel.arr3 {β : Ren} {l : List Value} {a : Array Value} (h : LRel β l a.toList) (i : Nat) {x : Value} (e : l[i]? = some x) : ∃ x', a[i]? = some x' ∧ VRel β x x' := by
  obtain ⟨x', e1, r1⟩ := h.2 i x e
  exact ⟨x', by simpa using e1, r1⟩

theorem dropAt_rel : ∀ (es es' : List MapEntry) (i : Nat), MRel β es es' → MRel β (View.dropAt es i) (es'.eraseIdx i)
  | [], es', i, h => by rw [MRel.nil_inv h]; simpa [View.dropAt] using MRel.nil
  | e :: es, es', 0, h => by
    obtain ⟨e', m, rfl, a, b⟩ := h.cons_inv
    simpa [View.dropAt] using b
  | e :: es, es', i + 1, h => by
    obtain ⟨e', m, rfl, a, b⟩ := h.cons_inv
    simpa [View.dropAt] using MRel.cons a (dropAt_rel es m i b)

include hV
theorem sim_clear (h : HRel ok β H w base) {ts : Array TypeId} {args : List Value} {args' : Array Value} {ty : TypeId} {v : Value} {H' : Heap} (e : V.clear H ts.toList args = some (v, H')) (hr : LRel β args args'.toList)
    (hu0 : ∀ t, ts[0]? = some t → ∃ d, P.underlying t = some d) :
    ∃ w' v', (Builtin.clear_ ts ty args').run P w = .ok v' w' ∧ HRel ok β H' w' base ∧ VRel β v v' ∧ Post β H w β H' w' := by
  unfold View.clear at e
  split at e
  · rename_i t tl al hts
    have g0 := arr_of_list1 hts
    obtain ⟨d, hu⟩ := hu0 t g0
    obtain ⟨x', g2, rx⟩ := hr.arr1
    cases e; cases rx
    refine ⟨w, .tuple #[], ?_, h, VRel.tuple_of (LRel.nil β), Post.refl _ _ _⟩
    unfold Builtin.clear_
    simp only [g0, g2, Sem.run_bind, run_underlying hu, Result.andThen_ok]
    rfl
  · rename_i t tl n c al hts
    have g0 := arr_of_list1 hts
    obtain ⟨d, hu⟩ := hu0 t g0
    obtain ⟨x', g2, rx⟩ := hr.arr1
    cases e; cases rx
    refine ⟨w, .tuple #[], ?_, h, VRel.tuple_of (LRel.nil β), Post.refl _ _ _⟩
    unfold Builtin.clear_
    simp only [g0, g2, Sem.run_bind, run_underlying hu, Result.andThen_ok]
    rfl
  · rename_i t tl a c al hts
    have g0 := arr_of_list1 hts
    obtain ⟨d, hu⟩ := hu0 t g0
    obtain ⟨x', g2, rx⟩ := hr.arr1
    cases e
    obtain ⟨b, o, sp⟩ := a
    obtain ⟨rfl, u, cap, o', hb, rfl, hlc, hex, hun, hoff⟩ := rx.slice_inv
    refine ⟨w, .tuple #[], ?_, h, VRel.tuple_of (LRel.nil β), Post.refl _ _ _⟩
    unfold Builtin.clear_
    simp only [g0, g2, Sem.run_bind, run_underlying hu, Result.andThen_ok]
    rfl
  · rename_i t tl a n c al hts
    have g0 := arr_of_list1 hts
    obtain ⟨x', g2, rx⟩ := hr.arr1
    split at e
    · rename_i ev hel
      obtain ⟨el, hu, hev⟩ := elemV_run hV hel
      split at e
      · rename_i hb2
        simp only [Bool.and_eq_true] at hb2
        obtain ⟨b4, b5⟩ := hb2
        have b4 := beq_eq b4
        have b5 : 0 < ev.size := Nat.le_of_ble_eq_true b5
        split at e
        · rename_i H2 hst
          cases e
          obtain ⟨b, o, sp⟩ := a
          obtain ⟨rfl, u, cap, o', hb, rfl, hlc, hex, hun, hoff⟩ := rx.slice_inv
          have ho : o' = o + u.delta := by rcases hoff with h1 | h0; exact h1; omega
          subst ho
          have hz := (((VRel.plain (β := β) 10 _ (hV el ev hev).zero)).cells).reps (n + 1)
          obtain ⟨w', h1, h2, h3, _⟩ := sim_storeN (P := P) h hst hz hb
          refine ⟨w', .tuple #[], ?_, h2, VRel.tuple_of (LRel.nil β), h3⟩
          have hzc : Builtin.zeroCells ev.zero.cells (n + 1) = ⟨View.reps ev.zero.cells.toList (n + 1)⟩ := zeros_eq _ (by omega) _
          unfold Builtin.clear_
          simp only [g0, g2, Sem.run_bind, run_underlying hu, Result.andThen_ok, ty_zero hV w hev, hzc, h1, Sem.run_pure]
        · cases e
      · cases e
    · cases e
  · rename_i t tl r al hts
    have g0 := arr_of_list1 hts
    obtain ⟨d, hu⟩ := hu0 t g0
    obtain ⟨x', g2, rx⟩ := hr.arr1
    cases rx with
    | map hb =>
      split at e
      · rename_i es clock hg
        cases e
        obtain ⟨es', hw, hm⟩ := h.mapAt w hg hb
        obtain ⟨a, b⟩ := h.setMap hg hb (es2 := []) (es2' := #[]) clock MRel.nil
        refine ⟨_, .tuple #[], ?_, a, VRel.tuple_of (LRel.nil β), b⟩
        unfold Builtin.clear_
        simp only [g0, g2, Sem.run_bind, run_underlying hu, Result.andThen_ok]
        simp only [Sem.run_bind, getObj_map hw, Result.andThen_ok, setObj_map hw, Sem.run_pure]
      · cases e
  · cases e

theorem sim_delete (h : HRel ok β H w base) {ts : Array TypeId} {args : List Value} {args' : Array Value} {ty : TypeId} {v : Value} {H' : Heap} (e : V.delete H ts.toList args = some (v, H')) (hr : LRel β args args'.toList) :
    ∃ w' v', (Builtin.delete_ ts ty args').run P w = .ok v' w' ∧ HRel ok β H' w' base ∧ VRel β v v' ∧ Post β H w β H' w' := by
  unfold View.delete at e
  split at e
  · rename_i t tl r k al hts
    have g0 := arr_of_list1 hts
    obtain ⟨m', k', g2, g3, rm, rk⟩ := hr.arr2
    cases rm with
    | map hb =>
      split at e
      · rename_i kt el hmt
        have hu := map_under hV hmt
        split at e
        · rename_i es clock hkey hg
          obtain ⟨ktv, hkt⟩ := keyT_ty hkey
          obtain ⟨es', hw, hm⟩ := h.mapAt w hg hb
          unfold Builtin.delete_
          simp only [g0, g2, g3, Sem.run_bind, run_underlying hu, Result.andThen_ok, getObj_map hw, checkKey_run hV w _ hkey rk]
          split at e
          · rename_i i v0 hf
            cases e
            obtain ⟨r', h1, _, h3⟩ := findKey_run hV w rk hkt hf hm
            obtain ⟨v1, e1, e2, rfl, _⟩ := h3 _ _ rfl
            have hrel : MRel β (View.dropAt es i) (es'.eraseIdxIfInBounds i).toList := by
              have := dropAt_rel (β := β) es es'.toList i hm
              simpa using this
            obtain ⟨a, b⟩ := h.setMap hg hb clock hrel
            exact ⟨_, .tuple #[], by simp only [Sem.run_bind, h1, Result.andThen_ok, setObj_map hw, Sem.run_pure], a, VRel.tuple_of (LRel.nil β), b⟩
          · rename_i hf
            cases e
            obtain ⟨r', h1, h2, _⟩ := findKey_run hV w rk hkt hf hm
            have := h2 rfl; subst this
            obtain ⟨a, b⟩ := h.setMap hg hb clock hm
            exact ⟨_, .tuple #[], by simp only [Sem.run_bind, h1, Result.andThen_ok, setObj_map hw, Sem.run_pure], a, VRel.tuple_of (LRel.nil β), b⟩
          · cases e
        · cases e
      · cases e
  · cases e

omit hV in
theorem most_max {k : IntKind} : ∀ (l l' : List Value) (a : Int) (v : Value), View.most false a k l = some v → LRel β l l' → (l'.foldlM Builtin.max2 (.int k a) : Sem Value).run P w = .ok v w ∧ ∃ n, v = .int k n
  | [], l', a, v, e, h => by
    rw [LRel.nil_inv h]
    simp [View.most] at e
    subst e
    exact ⟨rfl, _, rfl⟩
  | x :: l, l', a, v, e, h => by
    obtain ⟨x', m, rfl, r, hm⟩ := h.cons_inv
    cases x <;> simp only [View.most] at e <;> try cases e
    rename_i k' b
    cases r
    split at e
    · rename_i hk
      have := of_decide_eq_true hk; subst this
      simp only [List.foldlM_cons, Sem.run_bind, Builtin.max2, Sem.run_pure, Result.andThen_ok]
      exact most_max l m _ v e hm
    · cases e
omit hV in
theorem most_min {k : IntKind} : ∀ (l l' : List Value) (a : Int) (v : Value), View.most true a k l = some v → LRel β l l' → (l'.foldlM Builtin.min2 (.int k a) : Sem Value).run P w = .ok v w ∧ ∃ n, v = .int k n
  | [], l', a, v, e, h => by
    rw [LRel.nil_inv h]
    simp [View.most] at e
    subst e
    exact ⟨rfl, _, rfl⟩
  | x :: l, l', a, v, e, h => by
    obtain ⟨x', m, rfl, r, hm⟩ := h.cons_inv
    cases x <;> simp only [View.most] at e <;> try cases e
    rename_i k' b
    cases r
    split at e
    · rename_i hk
      have := of_decide_eq_true hk; subst this
      simp only [List.foldlM_cons, Sem.run_bind, Builtin.min2, Sem.run_pure, Result.andThen_ok]
      exact most_min l m _ v e hm
    · cases e

theorem sim_builtin (h : HRel ok β H w base) {b : Builtin} {ts : Array TypeId} {args : List Value} {args' : Array Value} {ty : TypeId} {cs : Array Bool} {v : Value} {H' : Heap} (e : V.builtin H b ts.toList args = some (.val v H')) (hr : LRel β args args'.toList)
    (hu0 : b = .clear → ∀ t, ts[0]? = some t → ∃ d, P.underlying t = some d) :
    ∃ β' w' v', (Go.builtin b ts ty cs args').run P w = .ok (.value v') w' ∧ HRel ok β' H' w' base ∧ VRel β' v v' ∧ Post β H w β' H' w' := by
  unfold View.builtin at e
  split at e
  · unfold View.both at e
    split at e
    · rename_i x H2 hx
      cases e
      obtain ⟨β', w', v', h1, h2, h3, h4⟩ := sim_append hV h (ty := ty) hx hr
      exact ⟨β', w', v', by simp only [Go.builtin, Sem.run_bind, h1, Result.andThen_ok, Sem.run_pure], h2, h3, h4⟩
    · cases e
  · unfold View.value at e
    split at e
    · rename_i x hx
      cases e
      obtain ⟨v', h1, h2⟩ := sim_len hV h (ty := ty) hx hr
      exact ⟨β, w, v', by simp only [Go.builtin, Sem.run_bind, h1, Result.andThen_ok, Sem.run_pure], h, h2, Post.refl _ _ _⟩
    · cases e
  · unfold View.value at e
    split at e
    · rename_i x hx
      cases e
      obtain ⟨v', h1, h2⟩ := sim_cap hV (w := w) (ty := ty) hx hr
      exact ⟨β, w, v', by simp only [Go.builtin, Sem.run_bind, h1, Result.andThen_ok, Sem.run_pure], h, h2, Post.refl _ _ _⟩
    · cases e
  · unfold View.both at e
    split at e
    · rename_i x H2 hx
      cases e
      obtain ⟨w', v', h1, h2, h3, h4⟩ := sim_copy hV h (ty := ty) hx hr
      exact ⟨β, w', v', by simp only [Go.builtin, Sem.run_bind, h1, Result.andThen_ok, Sem.run_pure], h2, h3, h4⟩
    · cases e
  · unfold View.both at e
    split at e
    · rename_i x H2 hx
      cases e
      obtain ⟨w', v', h1, h2, h3, h4⟩ := sim_clear hV h (ty := ty) hx hr (hu0 rfl)
      exact ⟨β, w', v', by simp only [Go.builtin, Sem.run_bind, h1, Result.andThen_ok, Sem.run_pure], h2, h3, h4⟩
    · cases e
  · unfold View.both at e
    split at e
    · rename_i x H2 hx
      cases e
      obtain ⟨w', v', h1, h2, h3, h4⟩ := sim_delete hV h (ty := ty) hx hr
      exact ⟨β, w', v', by simp only [Go.builtin, Sem.run_bind, h1, Result.andThen_ok, Sem.run_pure], h2, h3, h4⟩
    · cases e
  · split at e
    · rename_i k a l
      unfold View.value at e
      split at e
      · rename_i x hx
        cases e
        obtain ⟨x', m, hl, r, hm⟩ := hr.cons_inv
        cases r
        obtain ⟨h1, n, rfl⟩ := most_min (P := P) (w := w) l m a v hx hm
        exact ⟨β, w, _, by simp only [Go.builtin, Builtin.min_, hl, Sem.run_bind, h1, Result.andThen_ok, Sem.run_pure], h, .int _ _, Post.refl _ _ _⟩
      · cases e
    · cases e
  · split at e
    · rename_i k a l
      unfold View.value at e
      split at e
      · rename_i x hx
        cases e
        obtain ⟨x', m, hl, r, hm⟩ := hr.cons_inv
        cases r
        obtain ⟨h1, n, rfl⟩ := most_max (P := P) (w := w) l m a v hx hm
        exact ⟨β, w, _, by simp only [Go.builtin, Builtin.max_, hl, Sem.run_bind, h1, Result.andThen_ok, Sem.run_pure], h, .int _ _, Post.refl _ _ _⟩
      · cases e
    · cases e
  · cases e
end
end
end Go.Sp

