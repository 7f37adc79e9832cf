/- Value logic, part 4: code over abstract values, and what its steps do. -/
import Derived.Test.YtohccdodnpkpfaaVl3
set_option linter.unusedVariables false
set_option linter.unusedSimpArgs false
namespace Go.VL
open Go.RowKit

inductive OD where
  | t (n : Nat)
  | k (a : AV)
  deriving Inhabited

/-- A type of values that are held against each other: is it a struct or an array, and its cells' kinds. -/
structure KS where
  ag : Bool
  ls : List Leaf
  deriving DecidableEq, Inhabited

inductive PK where
  | mov (x : OD)
  | newnil (sz : Nat)
  | pick (c a b : OD)
  | alloc (cs : List AV)
  | box (n : Nat) (x : OD)
  | build (zero : List AV) (parts : List (Nat × Nat × OD))
  | bsl (sz : Nat) (xs : List OD)
  | bslA (sz : Nat) (xs : List OD)
  | load (n : Nat) (ag : Bool) (a : OD)
  | store (n : Nat) (a x : OD)
  | nilc (x : OD)
  | bin (op : BinOp) (x y : OD)
  | eq (neg : Bool) (ks : KS) (x y : OD)
  | eqn (neg : Bool) (x y : OD)
  | un (op : UnOp) (x : OD)
  | conv (k : IntKind) (x : OD)
  | cstr (x : OD)
  | mkfn (f : Fn) (first cap : List OD)
  | mkmap
  | mksl (zero : AV) (sz bytes : Nat) (l c : OD)
  | slc (sz : Nat) (x : OD) (lo hi : Option OD)
  | fad (x : OD) (off : Nat)
  | fld (x : OD) (off n : Nat) (ag : Bool)
  | iad (sz : Nat) (x i : OD)
  | aad (len sz : Nat) (x i : OD)
  | idx (x i : OD)
  | look (ks : KS) (zero : AV) (ok : Bool) (m k : OD)
  | mupd (ks : KS) (m k x : OD)
  | ment (ks : KS) (zero : AV) (m k : OD)
  | mest (m s x : OD)
  | rngS (x : OD)
  | rngM (x : OD)
  | nxtS (x : OD)
  | ext (t : OD) (i : Nat)
  | len (kd : Nat) (x : OD)
  | app (sz bytes : Nat) (x y : OD)
  | del (ks : KS) (m k : OD)
  | cpy (sz : Nat) (x y : OD)
  | mm (mx : Bool) (x y : OD)
  | mki (t : TypeId) (x : OD)
  | loadB (n : Nat) (ag : Bool) (a : OD) (bs : List OD)
  | storeB (n : Nat) (a x b : OD)
  | storeE (n : Nat) (a x : OD)
  | appF (sz bytes : Nat) (x y : OD)
  | appN (sz bytes : Nat) (x y : OD)
  deriving Inhabited

/-- An operation: with a result, without one, guarded, a call, a guarded call, a call of a function value, a map's next entry. -/
inductive PO where
  | o (d : Nat) (op : PK)
  | u (op : PK)
  | g (d j : Nat) (b : Bool) (op : PK)
  | c (d : Option Nat) (f : Nat) (args : List OD)
  | gc (d j : Nat) (b : Bool) (f : Nat) (args : List OD)
  | p (d : Nat) (f : Nat) (args : List OD)
  | gp (d j : Nat) (b : Bool) (f : Nat) (args : List OD)
  | q (d : Nat) (f : Nat) (args : List OD)
  | gq (d j : Nat) (b : Bool) (f : Nat) (args : List OD)
  | cv (d : Option Nat) (x : OD) (args : List OD)
  | nx (d : Nat) (x : OD)
  deriving Inhabited

/-- What has to hold that an operation is done: slots that are true, or false; the last one first. -/
abbrev Pth := List (Nat × Bool)
/-- Operations of a region, with what has to hold that each is done; it is reckoned whether that holds or not. -/
inductive JO where
  | o (d : Nat) (op : PK)
  | u (op : PK)
  | g (p : Pth) (d : Nat) (op : PK)
  | k (p : Pth) (d j : Nat) (a b : OD)
  | c (d : Option Nat) (f : Nat) (args : List OD)
  | gc (p : Pth) (d : Nat) (f : Nat) (args : List OD)
  | p (p : Pth) (d : Nat) (f : Nat) (args : List OD)
  | q (p : Pth) (d : Nat) (f : Nat) (args : List OD)
  | cv (d : Option Nat) (x : OD) (args : List OD)
  | nx (d : Nat) (x : OD)
  deriving Inhabited

inductive PCd where
  | skip
  | seq (a b : PCd)
  | reg (ops : List PO)
  | jreg (ks : List Nat) (ops : List JO)
  | cond (c : OD) (a b : PCd)
  | block (id : Nat) (a : PCd)
  | loop (a : PCd)
  | exit (id : Nat)
  | ret
  deriving Inhabited

abbrev Tmps := List (Nat × AV)

def get : Tmps → Nat → AV
  | [], _ => .any
  | (i, a) :: r, n => if n = i then a else get r n

def put : Option Nat → AV → Tmps → Tmps
  | some i, a, T => (i, a) :: T
  | none, _, T => T

def OD.ev (T : Tmps) : OD → AV
  | .t n => get T n
  | .k a => a

structure Rs where
  ok : Prop
  a : AV
  O : List AO
  G : List Nat

def Rs.bad : Rs := ⟨False, .any, [], []⟩
def Rs.chk (r : Rs) (p : Prop) : Rs := ⟨p ∧ r.ok, r.a, r.O, r.G⟩

/-! ### Values -/
def rdv (cs : List AV) (off n : Nat) (ag : Bool) : AV := if ag then .agg ((cs.drop off).take n) else cs.getD off .any
def splice {α : Type} : List α → Nat → List α → List α
  | cs, _, [] => cs
  | cs, off, y :: ys => splice (cs.set off y) (off + 1) ys
def setc : AV → Nat → List AV → AV
  | .agg cs, off, ys => .agg (splice cs off ys)
  | _, 0, [y] => y
  | _, _, _ => .any
def szOK (s : Nat) : AV → Bool
  | .agg cs => cs.length == s
  | a => a.isOne && s == 1
def Tail.noTok : Tail → Tail
  | .full => .full
  | _ => .shut
def shut1 : AV → AV
  | .sl xs (.tok _) => .sl xs .shut
  | a => a
def shut : AV → AV
  | .agg cs => .agg (cs.map shut1)
  | a => shut1 a
def ival : AV → Option Int
  | .v (.int _ n) => some n
  | _ => none

def AV.isPtr : AV → Bool
  | .ref _ _ | .fp _ _ => true
  | _ => false
def eqNil : AV → AV → Option Bool
  | .v (.pointer none), .v (.pointer none) => some true
  | .v (.pointer none), b => if b.isPtr then some false else none
  | a, .v (.pointer none) => if a.isPtr then some false else none
  | _, _ => none

def toVL : List AV → Option (List Value)
  | [] => some []
  | .v x :: r => (toVL r).map (x :: ·)
  | _ :: _ => none
/-- A value without memory: its cells. -/
def toV : AV → Option (List Value)
  | .v x => some [x]
  | .agg cs => toVL cs
  | _ => none
def mkKey : Bool → AV → Option Value
  | false, .v x => if x.oneCell' = true then some x else none
  | true, .agg cs => (toVL cs).map fun l => .agg l.toArray
  | _, _ => none
def shapeB : Bool → Value → Bool
  | true, .agg _ => true
  | true, _ => false
  | false, x => x.oneCell'
/-- Two keys held against each other: none, if one is of another kind. -/
def kEq (ks : KS) (k k' : Value) : Option Bool := if shapeB ks.ag k' = true then leavesEq ks.ls (cellsL k) (cellsL k') else none
/-- The first entry of a key: none, if a key is of another kind. -/
def findM (ks : KS) (k : Value) : List (Value × AV) → Option (Option AV)
  | [] => some none
  | (k', a) :: r => match kEq ks k k' with
    | some true => some (some a)
    | some false => findM ks k r
    | none => none
def setM (ls : List Leaf) (k : Value) (x : AV) : List (Value × AV) → List (Value × AV)
  | [] => [(k, x)]
  | (k', a) :: r => if leavesEq ls (cellsL k) (cellsL k') = some true then (k', x) :: r else (k', a) :: setM ls k x r
def delM (ls : List Leaf) (k : Value) : List (Value × AV) → List (Value × AV)
  | [] => []
  | (k', a) :: r => if leavesEq ls (cellsL k) (cellsL k') = some true then r else (k', a) :: delM ls k r

/-! ### Steps -/
def evPick : AV → AV → AV → AV
  | .v (.bool t), .v (.bool x), .v (.bool y) => .v (.bool (if t then x else y))
  | .v (.bool true), a, _ => a
  | .v (.bool false), _, b => b
  | _, _, _ => .any

def evLoad (n : Nat) (ag : Bool) (O : List AO) (G : List Nat) : AV → Rs
  | .ref l off => match O[l]? with
    | some (.cells cs) => ⟨off + n ≤ cs.length, rdv cs off n ag, O, G⟩
    | _ => .bad
  | .fp x off => ⟨szOK x.cells.length x ∧ off + n ≤ x.cells.length, rdv x.cells off n ag, O, G⟩
  | .er l g i off => match O[l]? with
    | some (.arr sz g' xs) => ⟨g' = g ∧ i < xs.length ∧ szOK sz (xs.getD i .any) ∧ off + n ≤ sz, rdv (xs.getD i .any).cells off n ag, O, G⟩
    | _ => .bad
  | _ => .bad

def evStore (n : Nat) (O : List AO) (G : List Nat) (x : AV) : AV → Rs
  | .ref l off => match O[l]? with
    | some (.cells cs) => ⟨szOK n x ∧ off + n ≤ cs.length, .any, O.set l (.cells (splice cs off x.cells)), G⟩
    | _ => .bad
  | .er l g i off => match O[l]? with
    | some (.arr sz g' xs) => ⟨szOK n x ∧ g' = g ∧ i < xs.length ∧ szOK sz (xs.getD i .any) ∧ off + n ≤ sz, .any, O.set l (.arr sz g (xs.set i (setc (xs.getD i .any) off x.cells))), G⟩
    | _ => .bad
  | _ => .bad

def evNilc (O : List AO) (G : List Nat) : AV → Rs
  | .ref l off => ⟨True, .ref l off, O, G⟩
  | .fp x off => ⟨True, .fp x off, O, G⟩
  | .er l g i off => match O[l]? with
    | some (.arr _ g' _) => ⟨g' = g, .er l g i off, O, G⟩
    | _ => .bad
  | _ => .bad

def evBin (op : BinOp) (O : List AO) (G : List Nat) : AV → AV → Rs
  | .v (.int k a), .v (.int k' b) => match op with
    | .add => ⟨k = k', .v (.int k (k.wrap (a + b))), O, G⟩
    | .sub => ⟨k = k', .v (.int k (k.wrap (a - b))), O, G⟩
    | .mul => ⟨k = k', .v (.int k (k.wrap (a * b))), O, G⟩
    | .quo => ⟨k = k' ∧ b ≠ 0, .v (.int k (k.wrap (a.tdiv b))), O, G⟩
    | .rem => ⟨k = k' ∧ b ≠ 0, .v (.int k (a.tmod b)), O, G⟩
    | .lss => ⟨k = k', .v (.bool (decide (a < b))), O, G⟩
    | .leq => ⟨k = k', .v (.bool (decide (a ≤ b))), O, G⟩
    | .gtr => ⟨k = k', .v (.bool (decide (b < a))), O, G⟩
    | .geq => ⟨k = k', .v (.bool (decide (b ≤ a))), O, G⟩
    | _ => .bad
  | .v (.string a), .v (.string b) => match op with
    | .add => ⟨a.size + b.size ≤ 9223372036854775807, .v (.string (a ++ b)), O, G⟩
    | .lss => ⟨True, .v (.bool (Op.bytesLess a.toList b.toList)), O, G⟩
    | .leq => ⟨True, .v (.bool (Op.bytesLess a.toList b.toList || a.toList == b.toList)), O, G⟩
    | .gtr => ⟨True, .v (.bool !(Op.bytesLess a.toList b.toList || a.toList == b.toList)), O, G⟩
    | .geq => ⟨True, .v (.bool !(Op.bytesLess a.toList b.toList)), O, G⟩
    | _ => .bad
  | _, _ => .bad

def evEq (neg : Bool) (ks : KS) (O : List AO) (G : List Nat) (a b : AV) : Rs :=
  match mkKey ks.ag a, mkKey ks.ag b with
  | some x, some y => match leavesEq ks.ls (cellsL x) (cellsL y) with
    | some r => ⟨True, .v (.bool (if neg then !r else r)), O, G⟩
    | none => .bad
  | _, _ => .bad

def evEqn (neg : Bool) (O : List AO) (G : List Nat) (a b : AV) : Rs :=
  match eqNil a b with
  | some x => ⟨True, .v (.bool (if neg then !x else x)), O, G⟩
  | none => .bad

def evUn (op : UnOp) (O : List AO) (G : List Nat) : AV → Rs
  | .v (.bool b) => match op with
    | .not => ⟨True, .v (.bool !b), O, G⟩
    | _ => .bad
  | .v (.int k n) => match op with
    | .neg => ⟨True, .v (.int k (k.wrap (0 - n))), O, G⟩
    | _ => .bad
  | _ => .bad

def evConv (k : IntKind) (O : List AO) (G : List Nat) : AV → Rs
  | .v (.int _ n) => ⟨True, .v (.int k (k.wrap n)), O, G⟩
  | _ => .bad

def evCstr (O : List AO) (G : List Nat) : AV → Rs
  | .v (.string s) => ⟨True, .v (.string s), O, G⟩
  | _ => .bad

def evMksl (zero : AV) (sz bytes : Nat) (O : List AO) (G : List Nat) (l c : AV) : Rs :=
  match l, c with
  | .v (.int .i64 l), .v (.int .i64 c) => ⟨0 ≤ l ∧ l ≤ c ∧ c * bytes ≤ 140737488355328 ∧ c ≤ 140737488355328, .lsl O.length 0 0 l.toNat, O ++ [.arr sz 0 (List.replicate l.toNat zero)], G⟩
  | _, _ => .bad

def evSlc (sz : Nat) (O : List AO) (G : List Nat) (lo hi : Option AV) : AV → Rs
  | .v (.string s) => match (lo.getD (.v (.int .i64 0))), (hi.getD (.v (.int .i64 s.size))) with
    | .v (.int _ l), .v (.int _ h) => ⟨0 ≤ l ∧ l ≤ h ∧ h ≤ s.size, .v (.string (s.extract l.toNat h.toNat)), O, G⟩
    | _, _ => .bad
  | .sl xs t => match (lo.getD (.v (.int .i64 0))), hi with
    | .v (.int _ l), none => ⟨0 ≤ l ∧ l ≤ xs.length ∧ ∀ x ∈ xs, szOK sz x = true, .sl (xs.drop l.toNat) t.noTok, O, G⟩
    | .v (.int _ l), some (.v (.int _ h)) => ⟨0 ≤ l ∧ l ≤ h ∧ h ≤ xs.length ∧ ∀ x ∈ xs, szOK sz x = true, .sl ((xs.take h.toNat).drop l.toNat) .shut, O, G⟩
    | _, _ => .bad
  | .lsl b g off len => match O[b]?, (lo.getD (.v (.int .i64 0))), (hi.getD (.v (.int .i64 len))) with
    | some (.arr sz' g' _), .v (.int _ l), .v (.int _ h) => ⟨0 ≤ l ∧ l ≤ h ∧ h ≤ len ∧ sz' = sz ∧ g' = g, .lsl b g (off + l.toNat) (h.toNat - l.toNat), O, G⟩
    | _, _, _ => .bad
  | _ => .bad

def evFad (off : Nat) (O : List AO) (G : List Nat) : AV → Rs
  | .ref l o => match O[l]? with
    | some (.cells _) => ⟨True, .ref l (o + off), O, G⟩
    | _ => .bad
  | .fp x o => ⟨True, .fp x (o + off), O, G⟩
  | .er l g i o => match O[l]? with
    | some (.arr _ g' _) => ⟨g' = g, .er l g i (o + off), O, G⟩
    | _ => .bad
  | _ => .bad

def evFld (off n : Nat) (ag : Bool) (O : List AO) (G : List Nat) : AV → Rs
  | .agg cs => ⟨off + n ≤ cs.length, rdv cs off n ag, O, G⟩
  | _ => .bad

def evIad (sz : Nat) (O : List AO) (G : List Nat) : AV → AV → Rs
  | .sl xs _, .v (.int _ i) => ⟨0 ≤ i ∧ i < xs.length ∧ szOK sz (xs.getD i.toNat .any), .fp (xs.getD i.toNat .any) 0, O, G⟩
  | .lsl l g off len, .v (.int _ i) => match O[l]? with
    | some (.arr sz' g' _) => ⟨0 ≤ i ∧ i < len ∧ sz' = sz ∧ g' = g, .er l g (off + i.toNat) 0, O, G⟩
    | _ => .bad
  | _, _ => .bad

def evAad (len sz : Nat) (O : List AO) (G : List Nat) : AV → AV → Rs
  | .ref l o, .v (.int _ i) => match O[l]? with
    | some (.cells _) => ⟨0 ≤ i ∧ i < len, .ref l (o + i.toNat * sz), O, G⟩
    | _ => .bad
  | .fp x o, .v (.int _ i) => ⟨0 ≤ i ∧ i < len, .fp x (o + i.toNat * sz), O, G⟩
  | _, _ => .bad

def evIdx (O : List AO) (G : List Nat) : AV → AV → Rs
  | .v (.string s), .v (.int _ i) => ⟨0 ≤ i ∧ i < s.size, .v (.int .u8 (s.data.getD i.toNat 0).toNat), O, G⟩
  | _, _ => .bad

def evLook (ks : KS) (zero : AV) (ok : Bool) (O : List AO) (G : List Nat) : AV → AV → Rs
  | .lm l, k => match O[l]?, mkKey ks.ag k with
    | some (.map _ es), some kv => match findM ks kv es with
      | some (some a) => ⟨(kEq ks kv kv).isSome = true, if ok then .tup [a, .v (.bool true)] else a, O, G⟩
      | some none => ⟨(kEq ks kv kv).isSome = true, if ok then .tup [zero, .v (.bool false)] else zero, O, G⟩
      | none => .bad
    | _, _ => .bad
  | _, _ => .bad

def evMupd (ks : KS) (O : List AO) (G : List Nat) (x : AV) : AV → AV → Rs
  | .lm l, k => match O[l]?, mkKey ks.ag k with
    | some (.map g es), some kv => match findM ks kv es with
      | some (some _) => ⟨(kEq ks kv kv).isSome = true, .any, O.set l (.map g (setM ks.ls kv x es)), G⟩
      | some none => ⟨(kEq ks kv kv).isSome = true, .any, O.set l (.map (g + 1) (es ++ [(kv, x)])), G⟩
      | none => .bad
    | _, _ => .bad
  | _, _ => .bad

def evMent (ks : KS) (zero : AV) (O : List AO) (G : List Nat) : AV → AV → Rs
  | .lm l, k => match O[l]?, mkKey ks.ag k with
    | some (.map g es), some kv => match findM ks kv es with
      | some (some a) => ⟨(kEq ks kv kv).isSome = true, .tup [a, .stm l g kv ks.ls], O, G⟩
      | some none => ⟨(kEq ks kv kv).isSome = true, .tup [zero, .stm l (g + 1) kv ks.ls], O.set l (.map (g + 1) (es ++ [(kv, zero)])), G⟩
      | none => .bad
    | _, _ => .bad
  | _, _ => .bad

def evMest (O : List AO) (G : List Nat) (x : AV) : AV → AV → Rs
  | .lm l, .stm l' g k ls => match O[l]? with
    | some (.map g' es) => ⟨l' = l ∧ g' = g, .any, O.set l (.map g (setM ls k x es)), G⟩
    | _ => .bad
  | _, _ => .bad

def evDel (ks : KS) (O : List AO) (G : List Nat) : AV → AV → Rs
  | .lm l, k => match O[l]?, mkKey ks.ag k with
    | some (.map g es), some kv => match findM ks kv es with
      | some _ => ⟨(kEq ks kv kv).isSome = true, .tup [], O.set l (.map (g + 1) (delM ks.ls kv es)), G⟩
      | none => .bad
    | _, _ => .bad
  | _, _ => .bad

def evLen (O : List AO) (G : List Nat) : AV → Rs
  | .v (.string s) => ⟨True, .v (.int .i64 s.size), O, G⟩
  | .sl xs _ => ⟨True, .v (.int .i64 xs.length), O, G⟩
  | .lsl l g _ n => match O[l]? with
    | some (.arr _ g' _) => ⟨g' = g, .v (.int .i64 n), O, G⟩
    | _ => .bad
  | .lm l => match O[l]? with
    | some (.map _ es) => ⟨True, .v (.int .i64 es.length), O, G⟩
    | _ => .bad
  | _ => .bad

/-- What is measured or cut: its kind. -/
def lenK : AV → Option Nat
  | .v (.string _) => some 0
  | .sl _ _ | .lsl _ _ _ _ => some 1
  | .lm _ => some 2
  | _ => none
def slcK (sz : Nat) : AV → Bool
  | .v _ => sz == 0
  | .sl _ _ | .lsl _ _ _ _ => sz != 0
  | _ => true

/-- What is appended: the elements. -/
def elemsOf (O : List AO) : AV → Option (List AV)
  | .sl ys _ => some ys
  | .lsl l g off n => match O[l]? with
    | some (.arr _ g' xs) => if g' = g ∧ off + n ≤ xs.length then some ((xs.drop off).take n) else none
    | _ => none
  | _ => none

def evApp (sz bytes : Nat) (O : List AO) (G : List Nat) (x y : AV) : Rs :=
  match elemsOf O y with
  | none => .bad
  | some ys => match x with
    | .sl xs t => match t with
      | .full => ⟨(∀ x ∈ xs, szOK sz x) ∧ (∀ y ∈ ys, szOK sz y) ∧ (xs.length + ys.length) * bytes ≤ 140737488355328 ∧ xs.length + ys.length ≤ 140737488355328,
          if ys.isEmpty then .sl xs .full else .sl (xs ++ ys) (.tok G.length), O, if ys.isEmpty then G else G ++ [(xs.length + ys.length) * sz]⟩
      | .tok n => ⟨G[n]? = some (xs.length * sz) ∧ (∀ x ∈ xs, szOK sz x) ∧ (∀ y ∈ ys, szOK sz y) ∧ (xs.length + ys.length) * bytes ≤ 140737488355328 ∧ xs.length + ys.length ≤ 140737488355328,
          .sl (xs ++ ys) (.tok n), O, G.set n ((xs.length + ys.length) * sz)⟩
      | .shut => .bad
    | .lsl l g off n => match O[l]? with
      | some (.arr sz' g' xs) => ⟨sz' = sz ∧ g' = g ∧ off = 0 ∧ n ≤ xs.length ∧ (∀ x ∈ xs, szOK sz x) ∧ (∀ y ∈ ys, szOK sz y) ∧ (n + ys.length) * bytes ≤ 140737488355328 ∧ n + ys.length ≤ 140737488355328,
          if ys.isEmpty then .lsl l g 0 n else .lsl l (g + 1) 0 (n + ys.length), if ys.isEmpty then O else O.set l (.arr sz (g + 1) (xs.take n ++ ys)), G⟩
      | _ => .bad
    | _ => .bad

/-- An append to what may be an empty row without room: it then gets a place of its own. -/
def evAppN (sz bytes : Nat) (O : List AO) (G : List Nat) (x y : AV) : Rs :=
  match x with
  | .sl [] .full => (evApp sz bytes (O ++ [.arr sz 0 []]) G (.lsl O.length 0 0 0) y).chk (0 < sz)
  | x => evApp sz bytes O G x y

def mm1 (mx : Bool) (a b : Int) : Int := if mx then (if b > a then b else a) else (if b < a then b else a)
def evMM (mx : Bool) (O : List AO) (G : List Nat) : AV → AV → Rs
  | .v (.int k a), .v (.int k' b) => ⟨k = k', .v (.int k (mm1 mx a b)), O, G⟩
  | _, _ => .bad

/-- A place that is no row's: which. -/
def refLoc : AV → Option Nat
  | .ref l _ => some l
  | _ => none
def condB (T : Tmps) (a : OD) (bs : List OD) : Bool := match a.ev T with
  | .ref l _ => bs.all fun b => match refLoc (b.ev T) with | some l' => l' != l | none => false
  | .fp _ _ => true
  | _ => false
def condS (T : Tmps) (a b : OD) : Bool := match refLoc (a.ev T), refLoc (b.ev T) with
  | some l, some l' => l == l'
  | _, _ => false
def AV.isEr : AV → Bool
  | .er _ _ _ _ => true
  | _ => false
def AV.isSl : AV → Bool
  | .sl _ _ => true
  | _ => false
def evBuild (zero : List AV) : List (Nat × Nat × AV) → AV
  | [] => .agg zero
  | (off, _, x) :: r => evBuild (splice zero off x.cells) r

/-- One operation that is no call. -/
def ev (T : Tmps) (O : List AO) (G : List Nat) : PK → Rs
  | .mov x => ⟨True, x.ev T, O, G⟩
  | .newnil sz => ⟨0 < sz, .lsl O.length 0 0 0, O ++ [.arr sz 0 []], G⟩
  | .pick c a b => ⟨∃ t, c.ev T = .v (.bool t), evPick (c.ev T) (a.ev T) (b.ev T), O, G⟩
  | .alloc cs => ⟨True, .ref O.length 0, O ++ [.cells cs], G⟩
  | .box n x => ⟨szOK n (x.ev T), .ref O.length 0, O ++ [.cells (x.ev T).cells], G⟩
  | .build zero parts => ⟨(∀ p ∈ parts, szOK p.2.1 (p.2.2.ev T) = true ∧ p.1 + p.2.1 ≤ zero.length), evBuild zero (parts.map fun p => (p.1, p.2.1, shut (p.2.2.ev T))), O, G⟩
  | .bsl sz xs => ⟨∀ x ∈ xs, szOK sz (OD.ev T x), .sl (xs.map fun x => shut (x.ev T)) .full, O, G⟩
  | .bslA sz xs => ⟨∀ x ∈ xs, szOK sz (OD.ev T x), .lsl O.length 0 0 xs.length, O ++ [.arr sz 0 (xs.map fun x => shut (x.ev T))], G⟩
  | .load n ag a => evLoad n ag O G (a.ev T)
  | .store n a x => evStore n O G (x.ev T) (a.ev T)
  | .nilc x => evNilc O G (x.ev T)
  | .bin op x y => evBin op O G (x.ev T) (y.ev T)
  | .eq neg ks x y => evEq neg ks O G (x.ev T) (y.ev T)
  | .eqn neg x y => evEqn neg O G (x.ev T) (y.ev T)
  | .un op x => evUn op O G (x.ev T)
  | .conv k x => evConv k O G (x.ev T)
  | .cstr x => evCstr O G (x.ev T)
  | .mkfn f first cap => ⟨True, .fn f (first.map (OD.ev T)) (cap.map (OD.ev T)), O, G⟩
  | .mkmap => ⟨True, .lm O.length, O ++ [.map 0 []], G⟩
  | .mksl zero sz bytes l c => evMksl zero sz bytes O G (l.ev T) (c.ev T)
  | .slc sz x lo hi => (evSlc sz O G (lo.map (OD.ev T)) (hi.map (OD.ev T)) (x.ev T)).chk (slcK sz (x.ev T) = true)
  | .fad x off => evFad off O G (x.ev T)
  | .fld x off n ag => evFld off n ag O G (x.ev T)
  | .iad sz x i => evIad sz O G (x.ev T) (i.ev T)
  | .aad len sz x i => evAad len sz O G (x.ev T) (i.ev T)
  | .idx x i => evIdx O G (x.ev T) (i.ev T)
  | .look ks zero ok m k => evLook ks zero ok O G (m.ev T) (k.ev T)
  | .mupd ks m k x => evMupd ks O G (x.ev T) (m.ev T) (k.ev T)
  | .ment ks zero m k => evMent ks zero O G (m.ev T) (k.ev T)
  | .mest m s x => evMest O G (x.ev T) (m.ev T) (s.ev T)
  | .del ks m k => evDel ks O G (m.ev T) (k.ev T)
  | .ext t i => match t.ev T with
    | .tup vs => ⟨i < vs.length, vs.getD i .any, O, G⟩
    | _ => .bad
  | .len kd x => (evLen O G (x.ev T)).chk (lenK (x.ev T) = some kd)
  | .app sz bytes x y => evApp sz bytes O G (x.ev T) (y.ev T)
  | .appN sz bytes x y => evAppN sz bytes O G (x.ev T) (y.ev T)
  | .mm mx x y => evMM mx O G (x.ev T) (y.ev T)
  | .mki t x => ⟨True, .ifc t (x.ev T), O, G⟩
  | .loadB n ag a bs => (evLoad n ag O G (a.ev T)).chk (condB T a bs = true)
  | .storeB n a x b => (evStore n O G (x.ev T) (a.ev T)).chk (condS T a b = true)
  | .storeE n a x => (evStore n O G (x.ev T) (a.ev T)).chk ((a.ev T).isEr = true)
  | .appF sz bytes x y => (evApp sz bytes O G (x.ev T) (y.ev T)).chk ((x.ev T).isSl = true)
  | _ => .bad

/-- How calls are met. -/
structure CallSem where
  c : Nat → List AV → List AO → List Nat → (AV → List AO → List Nat → Prop) → Prop
  p : Nat → List AV → AV → Prop
  q : Nat → List AV → List AO → List Nat → AV → Prop
abbrev Post := Exit → Tmps → List AO → List Nat → Prop

/-- What follows a result. -/
def Kont (C : CallSem) (k : Tmps → List AO → List Nat → Prop) (d : Option Nat) (T : Tmps) (r : AV) (O : List AO) (G : List Nat) : Prop := k (put d r T) O G

def fnOf : AV → Option (Nat × List AV × List AV)
  | .fn (.func f) first cap => some (f, first, cap)
  | _ => none

/-- A map's next entry: any key that is left, or none, where none is left. -/
def evNext (O : List AO) (G : List Nat) (x : AV) (k : AV → List AO → List Nat → Prop) : Prop :=
  match x with
  | .it l => match O[l]? with
    | some (.miter m g left) => match O[m]? with
      | some (.map g' es) => g' = g ∧ (left = [] → k (.tup [.v (.bool false)]) O G) ∧
        ∀ l1 key l2, left = l1 ++ key :: l2 → ∀ a, (key, a) ∈ es → k (.tup [.v (.bool true), .v key, a]) (O.set l (.miter m g (l1 ++ l2))) G
      | _ => False
    | _ => False
  | _ => False

theorem gite {t b : Bool} {A B : Prop} : (if t = b then A else B) ↔ ((t = b → A) ∧ (t = !b → B)) := by
  by_cases h : t = b
  · rw [if_pos h]; exact ⟨fun a => ⟨fun _ => a, fun e => by subst h; cases t <;> simp at e⟩, fun k => k.1 h⟩
  · rw [if_neg h]; exact ⟨fun a => ⟨fun e => absurd e h, fun _ => a⟩, fun k => k.2 (by cases t <;> cases b <;> simp at h ⊢)⟩
theorem cite {t : Bool} {A B : Prop} : (if t = true then A else B) ↔ ((t = true → A) ∧ (t = false → B)) := by cases t <;> simp

/-- What stands in a slot whose operation was passed over. -/
abbrev udf : AV := .v (.tuple #[])
/-- Operations, one behind the other. -/
def peOps (C : CallSem) (Q : Post) : List PO → Tmps → List AO → List Nat → Prop
  | [], T, O, G => Q .normal T O G
  | .o d op :: os, T, O, G => (ev T O G op).ok ∧ peOps C Q os ((d, (ev T O G op).a) :: T) (ev T O G op).O (ev T O G op).G
  | .u op :: os, T, O, G => (ev T O G op).ok ∧ peOps C Q os T (ev T O G op).O (ev T O G op).G
  | .g d j b op :: os, T, O, G => match get T j with
    | .v (.bool t) => if t = b then (ev T O G op).ok ∧ peOps C Q os ((d, (ev T O G op).a) :: (j, .v (.bool b)) :: T) (ev T O G op).O (ev T O G op).G
        else peOps C Q os ((d, udf) :: (j, .v (.bool !b)) :: T) O G
    | .v (.tuple _) => peOps C Q os ((d, udf) :: T) O G
    | _ => False
  | .c d f args :: os, T, O, G => C.c f (args.map (OD.ev T)) O G (Kont C (peOps C Q os) d T)
  | .gc d j b f args :: os, T, O, G => match get T j with
    | .v (.bool t) => if t = b then C.c f (args.map (OD.ev T)) O G (Kont C (peOps C Q os) (some d) ((j, .v (.bool b)) :: T))
        else peOps C Q os ((d, udf) :: (j, .v (.bool !b)) :: T) O G
    | .v (.tuple _) => peOps C Q os ((d, udf) :: T) O G
    | _ => False
  | .p d f args :: os, T, O, G => ∃ r, C.p f (args.map fun x => shut (OD.ev T x)) r ∧ peOps C Q os ((d, r) :: T) O G
  | .gp d j b f args :: os, T, O, G => match get T j with
    | .v (.bool t) => if t = b then ∃ r, C.p f (args.map fun x => shut (OD.ev T x)) r ∧ peOps C Q os ((d, r) :: (j, .v (.bool b)) :: T) O G
        else peOps C Q os ((d, udf) :: (j, .v (.bool !b)) :: T) O G
    | .v (.tuple _) => peOps C Q os ((d, udf) :: T) O G
    | _ => False
  | .q d f args :: os, T, O, G => ∃ r, C.q f (args.map (OD.ev T)) O G r ∧ peOps C Q os ((d, r) :: T) O G
  | .gq d j b f args :: os, T, O, G => match get T j with
    | .v (.bool t) => if t = b then ∃ r, C.q f (args.map (OD.ev T)) O G r ∧ peOps C Q os ((d, r) :: (j, .v (.bool b)) :: T) O G
        else peOps C Q os ((d, udf) :: (j, .v (.bool !b)) :: T) O G
    | .v (.tuple _) => peOps C Q os ((d, udf) :: T) O G
    | _ => False
  | .cv d x args :: os, T, O, G => match fnOf (x.ev T) with
    | some (f, first, cap) => C.c f (first ++ args.map (OD.ev T) ++ cap) O G (Kont C (peOps C Q os) d T)
    | none => False
  | .nx d x :: os, T, O, G => evNext O G (x.ev T) (Kont C (peOps C Q os) (some d) T)

/-- What has to hold, holds. -/
def condP (T : Tmps) : Pth → Prop
  | [] => True
  | (j, b) :: r => get T j = .v (.bool b) ∧ condP T r
def impl (T : Tmps) : Pth → Prop → Prop
  | [], X => X
  | (j, b) :: r, X => match get T j with
    | .v (.bool t) => t = b → impl T r X
    | _ => False
def isB : AV → Prop
  | .v (.bool _) => True
  | _ => False
def pickJ : AV → AV → AV → AV
  | .v (.bool t), .v (.bool x), .v (.bool y) => .v (.bool (cond t x y))
  | .v (.bool t), a, b => cond t a b
  | _, _, _ => .any
/-- What is kept behind a region. -/
def fin (ks : List Nat) (T : Tmps) : Tmps := ks.map fun k => (k, get T k)

/-- Operations with what has to hold, one behind the other. -/
def peJ (C : CallSem) (ks : List Nat) (Q : Post) : List JO → Tmps → List AO → List Nat → Prop
  | [], T, O, G => Q .normal (fin ks T) O G
  | .o d op :: os, T, O, G => (ev T O G op).ok ∧ peJ C ks Q os ((d, (ev T O G op).a) :: T) (ev T O G op).O (ev T O G op).G
  | .u op :: os, T, O, G => (ev T O G op).ok ∧ peJ C ks Q os T (ev T O G op).O (ev T O G op).G
  | .g p d op :: os, T, O, G => impl T p (ev T O G op).ok ∧ peJ C ks Q os ((d, (ev T O G op).a) :: T) O G
  | .k p d j a b :: os, T, O, G => impl T p (isB (get T j)) ∧ peJ C ks Q os ((d, pickJ (get T j) (a.ev T) (b.ev T)) :: T) O G
  | .c d f args :: os, T, O, G => C.c f (args.map (OD.ev T)) O G (Kont C (peJ C ks Q os) d T)
  | .gc p d f args :: os, T, O, G => impl T p (C.c f (args.map (OD.ev T)) O G (Kont C (peJ C ks Q os) (some d) T)) ∧ (¬ condP T p → peJ C ks Q os ((d, udf) :: T) O G)
  | .p p d f args :: os, T, O, G => ∃ r, impl T p (C.p f (args.map fun x => shut (OD.ev T x)) r) ∧ peJ C ks Q os ((d, r) :: T) O G
  | .q p d f args :: os, T, O, G => ∃ r, impl T p (C.q f (args.map (OD.ev T)) O G r) ∧ peJ C ks Q os ((d, r) :: T) O G
  | .cv d x args :: os, T, O, G => match fnOf (x.ev T) with
    | some (f, first, cap) => C.c f (first ++ args.map (OD.ev T) ++ cap) O G (Kont C (peJ C ks Q os) d T)
    | none => False
  | .nx d x :: os, T, O, G => evNext O G (x.ev T) (Kont C (peJ C ks Q os) (some d) T)

def SeqK (k : Tmps → List AO → List Nat → Prop) (Q : Post) : Post
  | .normal, T, O, G => k T O G
  | e, T, O, G => Q e T O G

def BlkK (id : Nat) (Q : Post) : Post
  | .exit i, T, O, G => if i = id then Q .normal T O G else Q (.exit i) T O G
  | e, T, O, G => Q e T O G

/-- Less is known: some slots are forgotten. -/
def Wk (T T' : Tmps) : Prop := ∀ n, get T' n = .any ∨ get T' n = get T n

def LoopK (I : Tmps → List AO → List Nat → Prop) (Q : Post) : Post
  | .normal, T, O, G => ∃ T', Wk T T' ∧ I T' O G
  | e, T, O, G => Q e T O G

/-- A loop: rounds up to a number. -/
def rounds (F : Post → Tmps → List AO → List Nat → Prop) (Q : Post) : Nat → Tmps → List AO → List Nat → Prop
  | 0, _, _, _ => False
  | n + 1, T, O, G => F (LoopK (rounds F Q n) Q) T O G

def pe (C : CallSem) : PCd → Post → Tmps → List AO → List Nat → Prop
  | .skip, Q, T, O, G => Q .normal T O G
  | .seq a b, Q, T, O, G => pe C a (SeqK (pe C b Q) Q) T O G
  | .reg ops, Q, T, O, G => peOps C Q ops T O G
  | .jreg ks ops, Q, T, O, G => peJ C ks Q ops T O G
  | .cond c a b, Q, T, O, G => match c.ev T with
    | .v (.bool t) => if t = true then pe C a Q T O G else pe C b Q T O G
    | _ => False
  | .block id a, Q, T, O, G => pe C a (BlkK id Q) T O G
  | .loop a, Q, T, O, G => ∃ n, rounds (pe C a) Q n T O G
  | .exit id, Q, T, O, G => Q (.exit id) T O G
  | .ret, Q, T, O, G => Q .ret T O G

/-- A loop by an invariant and a measure that each round lowers. -/
theorem pe_loop {C : CallSem} {a : PCd} {Q : Post} {T : Tmps} {O : List AO} {G : List Nat} (I : Nat → Tmps → List AO → List Nat → Prop)
    (n : Nat) (T0 : Tmps) (hw : Wk T T0) (h0 : I n T0 O G)
    (hr : ∀ n T O G, I n T O G → pe C a (LoopK (fun T' O' G' => ∃ m, m < n ∧ I m T' O' G') Q) T O G)
    (mono : ∀ {F F' : Post} {T O G}, (∀ e T O G, F e T O G → F' e T O G) → pe C a F T O G → pe C a F' T O G)
    (wk : ∀ {F : Post} {T T' O G}, Wk T T' → pe C a F T' O G → pe C a F T O G) : pe C (.loop a) Q T O G := by
  have key : ∀ n T O G, I n T O G → rounds (pe C a) Q (n + 1) T O G := by
    intro n
    induction n using Nat.strongRecOn with
    | _ n ih =>
      intro T O G h
      refine mono ?_ (hr n T O G h)
      rintro e T' O' G' hq
      cases e <;> try exact hq
      obtain ⟨T'', hw', m, hm, hI⟩ := hq
      refine ⟨T'', hw', ?_⟩
      have h2 := ih m hm T'' O' G' hI
      -- more rounds do no harm
      have up : ∀ (k j : Nat) T O G, k ≤ j → rounds (pe C a) Q k T O G → rounds (pe C a) Q j T O G := by
        intro k
        induction k with
        | zero => intro j T O G _ h; exact h.elim
        | succ k ihk =>
          intro j T O G hj h
          obtain ⟨j, rfl⟩ : ∃ i, j = i + 1 := ⟨j - 1, by omega⟩
          refine mono ?_ h
          rintro e T' O' G' hq
          cases e <;> try exact hq
          obtain ⟨T1, hw1, hq⟩ := hq
          exact ⟨T1, hw1, ihk j T1 O' G' (by omega) hq⟩
      exact up (m + 1) n T'' O' G' (by omega) h2
  exact ⟨n + 1, wk hw (key n T0 O G h0)⟩
end Go.VL
