/- Value logic, part 1: abstract values, environments, and what it means that a value of the model stands for an abstract one. -/
import Derived.WalkKit
set_option linter.unusedVariables false
set_option linter.unusedSimpArgs false
namespace Go.VL
open Go.RowKit

/-- What is known of the room behind a frozen slice. -/
inductive Tail where
  | full
  | tok (t : Nat)
  | shut
  deriving DecidableEq, Inhabited

/-- The kinds of cells of a value that is held against another one. -/
inductive Leaf where
  | int (k : IntKind)
  | bool
  | str
  deriving DecidableEq, Inhabited

inductive AV where
  | any
  | v (x : Value)
  | agg (cs : List AV)
  | tup (cs : List AV)
  | sl (xs : List AV) (t : Tail)
  | fp (x : AV) (off : Nat)
  | lsl (l g off len : Nat)
  | ref (l off : Nat)
  | er (l g i off : Nat)
  | lm (l : Nat)
  | it (l : Nat)
  | stm (l g : Nat) (k : Value) (ls : List Leaf)
  | fn (f : Fn) (first cap : List AV)
  | ifc (t : TypeId) (x : AV)
  deriving Inhabited

def AV.cells : AV → List AV
  | .agg cs => cs
  | x => [x]

/-- Surely a value of one cell. -/
def AV.isOne : AV → Bool
  | .any | .agg _ | .tup _ => false
  | .v x => x.oneCell'
  | _ => true

/-- Abstract objects: what a location holds. -/
inductive AO where
  | cells (cs : List AV)
  | arr (sz g : Nat) (xs : List AV)
  | map (g : Nat) (es : List (Value × AV))
  | siter (s : ByteArray) (pos : Nat)
  | miter (m g : Nat) (left : List Value)
  | bld (s : List UInt8)
  deriving Inhabited

/-- The same kind; a row's age does not fall. -/
def AO.le : AO → AO → Prop
  | .map g _, .map g' _ => g ≤ g'
  | .cells _, .cells _ | .siter _ _, .siter _ _ | .miter _ _ _, .miter _ _ _ | .bld _, .bld _ => True
  | .arr sz g _, .arr sz' g' _ => sz' = sz ∧ g ≤ g'
  | _, _ => False

/-- A row that has grown older may lie elsewhere. -/
def AO.moved : AO → AO → Prop
  | .arr _ g _, .arr _ g' _ => g < g'
  | _, _ => False

/-- F b hi: nobody will write into the cells of block b below hi. -/
structure Env where
  F : Nat → Nat → Prop
  base : Nat
  w0 : World
  w : World
  O : List AO
  G : List Nat
  pl : Nat → Option Nat
  tk : Nat → Nat

/-- Nobody will write into the cells of block b below hi. -/
def Env.safe (E : Env) (b hi : Nat) : Prop := ∃ hi', hi ≤ hi' ∧ E.F b hi'

def RowAt (w : World) (b o : Nat) (vs : List Value) : Prop := ∀ j c, vs[j]? = some c → w.cell? ⟨b, o + j, none⟩ = some c

def flat (vs : List Value) : List Value := vs.flatMap fun u => u.cells.toList

def TailAt (E : Env) (b o cap sz n : Nat) : Tail → Prop
  | .full => cap = n
  | .shut => True
  | .tok k => ∃ m, E.G[k]? = some m ∧ n * sz ≤ m ∧ (m = n * sz → E.tk k = b ∧ o = 0 ∧ ∃ cur e, E.w.heap[b]? = some (.cells cur e (0, 0)) ∧ cur.size = cap * sz)

def LslAt (E : Env) (l g off len : Nat) (y : Value) : Prop :=
  ∃ sz h xs, E.O[l]? = some (.arr sz h xs) ∧ g ≤ h ∧ (g = h →
    (len = 0 ∧ ∃ a, y = .slice a 0 0) ∨
    ∃ b cur e cap, E.pl l = some b ∧ E.w.heap[b]? = some (.cells cur e (0, 0)) ∧ y = .slice (some ⟨b, off * sz, none⟩) len cap ∧ len ≤ cap ∧ cur.size = (off + cap) * sz)

def ErAt (E : Env) (l g i off : Nat) (y : Value) : Prop :=
  ∃ sz h xs, E.O[l]? = some (.arr sz h xs) ∧ g ≤ h ∧ (g = h → ∃ b, E.pl l = some b ∧ y = .pointer (some ⟨b, i * sz + off, none⟩))

/-- The stamp of the entry of key k, as long as the map keeps its keys. -/
def leafEq : Leaf → Value → Value → Option Bool
  | .int k, .int k1 a, .int k2 b => if k1 = k ∧ k2 = k then some (a == b) else none
  | .bool, .bool a, .bool b => some (a == b)
  | .str, .string a, .string b => some (a == b)
  | _, _, _ => none
def leavesEq : List Leaf → List Value → List Value → Option Bool
  | [], [], [] => some true
  | l :: ls, a :: as, b :: bs => match leafEq l a b, leavesEq ls as bs with
    | some x, some y => some (x && y)
    | _, _ => none
  | _, _, _ => none
def cellsL : Value → List Value
  | .agg cs => cs.toList
  | x => [x]
/-- The place of the first entry of a key, and what it holds. -/
def idxE (ls : List Leaf) (k : Value) : List MapEntry → Nat → Option (Nat × MapEntry)
  | [], _ => none
  | e :: es, i => if leavesEq ls (cellsL k) (cellsL e.key) = some true then some (i, e) else idxE ls k es (i + 1)
def StmAt (E : Env) (l g : Nat) (k : Value) (ls : List Leaf) (y : Value) : Prop :=
  ∃ h es b, E.O[l]? = some (.map h es) ∧ g ≤ h ∧ E.pl l = some b ∧ (g = h → ∃ ces clk i c, E.w.heap[b]? = some (.map ces clk) ∧ idxE ls k ces.toList 0 = some (i, c) ∧ y = .int .i64 c.born)

mutual
inductive Rep (E : Env) : AV → Value → Prop
  | any (y : Value) : Rep E .any y
  | v (x : Value) : Rep E (.v x) x
  | agg {cs : List AV} {vs : List Value} : RepL E cs vs → (∀ u ∈ vs, u.oneCell' = true) → Rep E (.agg cs) (.agg vs.toArray)
  | tup {cs : List AV} {vs : List Value} : RepL E cs vs → Rep E (.tup cs) (.tuple vs.toArray)
  | slE {t : Tail} (a : Option Addr) (cap : Nat) : (t = .full → cap = 0) → (∀ k, t ≠ .tok k) → Rep E (.sl [] t) (.slice a 0 cap)
  | sl {xs : List AV} {t : Tail} {vs : List Value} (b o cap sz : Nat) : xs ≠ [] → RepL E xs vs → (∀ u ∈ vs, u.cells.size = sz) → 0 < sz → RowAt E.w b o (flat vs) →
      E.safe b (o + xs.length * sz) → xs.length ≤ cap → TailAt E b o cap sz xs.length t → Rep E (.sl xs t) (.slice (some ⟨b, o, none⟩) xs.length cap)
  | fp {x : AV} {u : Value} {off : Nat} (b o : Nat) : Rep E x u → RowAt E.w b o u.cells.toList → E.safe b (o + u.cells.size) → Rep E (.fp x off) (.pointer (some ⟨b, o + off, none⟩))
  | lsl {l g off len : Nat} {y : Value} : LslAt E l g off len y → y.oneCell' = true → Rep E (.lsl l g off len) y
  | ref {l off : Nat} (b : Nat) (cs : List AV) : E.O[l]? = some (.cells cs) → E.pl l = some b → Rep E (.ref l off) (.pointer (some ⟨b, off, none⟩))
  | refB {l : Nat} (b : Nat) (s : List UInt8) : E.O[l]? = some (.bld s) → E.pl l = some b → Rep E (.ref l 0) (.pointer (some ⟨b, 0, none⟩))
  | er {l g i off : Nat} {y : Value} : ErAt E l g i off y → y.oneCell' = true → Rep E (.er l g i off) y
  | lm {l : Nat} (b g : Nat) (es : List (Value × AV)) : E.O[l]? = some (.map g es) → E.pl l = some b → Rep E (.lm l) (.map (some b))
  | itS {l : Nat} (b : Nat) (s : ByteArray) (p : Nat) : E.O[l]? = some (.siter s p) → E.pl l = some b → Rep E (.it l) (.pointer (some ⟨b, 0, none⟩))
  | itM {l : Nat} (b m g : Nat) (ks : List Value) : E.O[l]? = some (.miter m g ks) → E.pl l = some b → Rep E (.it l) (.pointer (some ⟨b, 0, none⟩))
  | stm {l g : Nat} {k y : Value} {ls : List Leaf} : StmAt E l g k ls y → y.oneCell' = true → Rep E (.stm l g k ls) y
  | fn {f : Fn} {first cap : List AV} {vf vc : List Value} : RepL E first vf → RepL E cap vc → Rep E (.fn f first cap) (.func f vf.toArray vc.toArray)
  | ifc {t : TypeId} {x : AV} {u : Value} : Rep E x u → Rep E (.ifc t x) (.iface t u)
inductive RepL (E : Env) : List AV → List Value → Prop
  | nil : RepL E [] []
  | cons {a : AV} {u : Value} {as : List AV} {us : List Value} : Rep E a u → RepL E as us → RepL E (a :: as) (u :: us)
end

/-- The block of this number keeps its size, if it is a row of cells. -/
def SameSize (w w' : World) (b : Nat) : Prop := ∀ cur e, w.heap[b]? = some (.cells cur e (0, 0)) → ∃ cur', w'.heap[b]? = some (.cells cur' e (0, 0)) ∧ cur'.size = cur.size

/-- Maps that keep their age keep their keys. -/
def KeysKept (E E' : Env) : Prop := ∀ m bm ces clk g es es', E.pl m = some bm → E.O[m]? = some (.map g es) → E'.O[m]? = some (.map g es') → E.w.heap[bm]? = some (.map ces clk) →
  ∃ ces', E'.w.heap[bm]? = some (.map ces' clk) ∧ ces'.toList.map (fun e => (e.key, e.born)) = ces.toList.map (fun e => (e.key, e.born))

/-- E' is a later state of E: what is frozen stays, locations keep their kinds and places. -/
structure Ext (E E' : Env) : Prop where
  base_eq : E'.base = E.base
  w0_eq : E'.w0 = E.w0
  safe : ∀ b hi, E.F b hi → E'.F b hi
  old : ∀ b hi, E'.F b hi → b < E.base → E.F b hi
  cell : ∀ b hi j, E.F b hi → j < hi → E'.w.cell? ⟨b, j, none⟩ = E.w.cell? ⟨b, j, none⟩
  objs : ∀ l o, E.O[l]? = some o → ∃ o', E'.O[l]? = some o' ∧ AO.le o o' ∧ (AO.moved o o' ∨ (E'.pl l = E.pl l ∧ ∀ b, E.pl l = some b → SameSize E.w E'.w b))
  keys : KeysKept E E'
  tok : ∀ t m, E.G[t]? = some m → ∃ m', E'.G[t]? = some m' ∧ m ≤ m' ∧ (m = m' → E'.tk t = E.tk t ∧ SameSize E.w E'.w (E.tk t))

theorem Ext.cellsO {E E' : Env} (x : Ext E E') {l : Nat} {cs : List AV} (h : E.O[l]? = some (.cells cs)) : (∃ cs', E'.O[l]? = some (.cells cs')) ∧ E'.pl l = E.pl l := by
  obtain ⟨o', h1, h2, h3⟩ := x.objs l _ h
  cases o' <;> simp [AO.le, AO.moved] at h2 h3
  exact ⟨⟨_, h1⟩, h3.1⟩
theorem Ext.bldO {E E' : Env} (x : Ext E E') {l : Nat} {s : List UInt8} (h : E.O[l]? = some (.bld s)) : (∃ s', E'.O[l]? = some (.bld s')) ∧ E'.pl l = E.pl l := by
  obtain ⟨o', h1, h2, h3⟩ := x.objs l _ h
  cases o' <;> simp [AO.le, AO.moved] at h2 h3
  exact ⟨⟨_, h1⟩, h3.1⟩
theorem Ext.mapO {E E' : Env} (x : Ext E E') {l g : Nat} {es : List (Value × AV)} (h : E.O[l]? = some (.map g es)) : (∃ g' es', E'.O[l]? = some (.map g' es') ∧ g ≤ g') ∧ E'.pl l = E.pl l := by
  obtain ⟨o', h1, h2, h3⟩ := x.objs l _ h
  cases o' <;> simp [AO.le, AO.moved] at h2 h3
  exact ⟨⟨_, _, h1, h2⟩, h3.1⟩
theorem Ext.siterO {E E' : Env} (x : Ext E E') {l p : Nat} {s : ByteArray} (h : E.O[l]? = some (.siter s p)) : (∃ s' p', E'.O[l]? = some (.siter s' p')) ∧ E'.pl l = E.pl l := by
  obtain ⟨o', h1, h2, h3⟩ := x.objs l _ h
  cases o' <;> simp [AO.le, AO.moved] at h2 h3
  exact ⟨⟨_, _, h1⟩, h3.1⟩
theorem Ext.miterO {E E' : Env} (x : Ext E E') {l m g : Nat} {ks : List Value} (h : E.O[l]? = some (.miter m g ks)) : (∃ m' g' ks', E'.O[l]? = some (.miter m' g' ks')) ∧ E'.pl l = E.pl l := by
  obtain ⟨o', h1, h2, h3⟩ := x.objs l _ h
  cases o' <;> simp [AO.le, AO.moved] at h2 h3
  exact ⟨⟨_, _, _, h1⟩, h3.1⟩
theorem Ext.arrO {E E' : Env} (x : Ext E E') {l sz g : Nat} {xs : List AV} (h : E.O[l]? = some (.arr sz g xs)) : ∃ g' xs', E'.O[l]? = some (.arr sz g' xs') ∧ g ≤ g' ∧
    (g = g' → E'.pl l = E.pl l ∧ ∀ b, E.pl l = some b → SameSize E.w E'.w b) := by
  obtain ⟨o', h1, h2, h3⟩ := x.objs l _ h
  cases o' <;> simp [AO.le, AO.moved] at h2 h3
  rename_i sz' g' xs'
  obtain ⟨rfl, hg⟩ := h2
  refine ⟨g', xs', h1, hg, fun e => ?_⟩
  rcases h3 with h3 | h3
  · omega
  · exact h3

theorem Ext.safe' {E E' : Env} (x : Ext E E') {b hi : Nat} (h : E.safe b hi) : E'.safe b hi := by
  obtain ⟨hi', h1, h2⟩ := h
  exact ⟨hi', h1, x.safe b hi' h2⟩
theorem Ext.cell' {E E' : Env} (x : Ext E E') {b hi j : Nat} (h : E.safe b hi) (hj : j < hi) : E'.w.cell? ⟨b, j, none⟩ = E.w.cell? ⟨b, j, none⟩ := by
  obtain ⟨hi', h1, h2⟩ := h
  exact x.cell b hi' j h2 (by omega)
theorem Env.safe.down {E : Env} {b hi hi' : Nat} (h : E.safe b hi) (hle : hi' ≤ hi) : E.safe b hi' := by
  obtain ⟨k, h1, h2⟩ := h
  exact ⟨k, by omega, h2⟩

theorem RowAt.of_same {w w' : World} {b o : Nat} {vs : List Value} (h : RowAt w b o vs) (hc : ∀ j, j < o + vs.length → w'.cell? ⟨b, j, none⟩ = w.cell? ⟨b, j, none⟩) : RowAt w' b o vs := by
  intro j c hj
  have hlt : j < vs.length := (List.getElem?_eq_some_iff.1 hj).1
  rw [hc _ (by omega)]
  exact h j c hj

theorem length_flat {vs : List Value} {sz : Nat} (h : ∀ u ∈ vs, u.cells.size = sz) : (flat vs).length = vs.length * sz := by
  induction vs with
  | nil => simp [flat]
  | cons u us ih =>
    have h1 := h u (by simp)
    have h2 := ih fun x hx => h x (by simp [hx])
    simp only [flat, List.flatMap_cons, List.length_append, Array.length_toList, List.length_cons] at h2 ⊢
    rw [h1, h2, Nat.add_mul]; omega

theorem RepL.length {E : Env} : ∀ {as : List AV} {vs : List Value}, RepL E as vs → vs.length = as.length
  | [], _, .nil => rfl
  | _ :: _, _, .cons _ h => by simp [RepL.length h]

theorem LslAt.mono {E E' : Env} (x : Ext E E') {l g off len : Nat} {y : Value} (h : LslAt E l g off len y) : LslAt E' l g off len y := by
  obtain ⟨sz, h0, xs, ho, hg, hy⟩ := h
  obtain ⟨g', xs', ho', hle, hs⟩ := x.arrO ho
  refine ⟨sz, g', xs', ho', by omega, fun e => ?_⟩
  have e1 : g = h0 := by omega
  have e2 : h0 = g' := by omega
  obtain ⟨hpl, hb⟩ := hs e2
  rcases hy e1 with h1 | ⟨b, cur, e', cap, h1, h2, h3, h4, h5⟩
  · exact .inl h1
  · obtain ⟨cur', hc1, hc2⟩ := hb b h1 cur e' h2
    exact .inr ⟨b, cur', e', cap, hpl.trans h1, hc1, h3, h4, hc2.trans h5⟩

theorem ErAt.mono {E E' : Env} (x : Ext E E') {l g i off : Nat} {y : Value} (h : ErAt E l g i off y) : ErAt E' l g i off y := by
  obtain ⟨sz, h0, xs, ho, hg, hy⟩ := h
  obtain ⟨g', xs', ho', hle, hs⟩ := x.arrO ho
  refine ⟨sz, g', xs', ho', by omega, fun e => ?_⟩
  obtain ⟨b, h1, h2⟩ := hy (by omega)
  exact ⟨b, (hs (by omega)).1.trans h1, h2⟩

theorem idxE_same {ls : List Leaf} {k : Value} : ∀ {l l' : List MapEntry} (h : l'.map (fun e => (e.key, e.born)) = l.map (fun e => (e.key, e.born))) (j : Nat) {i : Nat} {c : MapEntry}, idxE ls k l j = some (i, c) →
    ∃ c', idxE ls k l' j = some (i, c') ∧ c'.born = c.born
  | [], _, _, _, _, _, hi => by simp [idxE] at hi
  | e :: l, [], h, _, _, _, _ => by simp at h
  | e :: l, e' :: l', h, j, i, c, hi => by
    simp only [List.map_cons, List.cons.injEq, Prod.mk.injEq] at h
    simp only [idxE, h.1.1] at hi ⊢
    split at hi
    · rename_i hc
      rw [if_pos hc]
      injection hi with hi; injection hi with h1 h2
      subst h1; subst h2
      exact ⟨e', rfl, h.1.2⟩
    · rename_i hc
      rw [if_neg hc]
      exact idxE_same h.2 (j + 1) hi

theorem StmAt.mono {E E' : Env} (x : Ext E E') {l g : Nat} {k y : Value} {ls : List Leaf} (h : StmAt E l g k ls y) : StmAt E' l g k ls y := by
  obtain ⟨h0, es, b, ho, hg, hb, hy⟩ := h
  obtain ⟨⟨g', es', ho', hle⟩, hpl⟩ := x.mapO ho
  refine ⟨g', es', b, ho', by omega, hpl.trans hb, fun e => ?_⟩
  obtain rfl : h0 = g' := by omega
  obtain ⟨ces, clk, i, c, h1, h2, h4⟩ := hy (by omega)
  obtain ⟨ces', k1, k2⟩ := x.keys l b ces clk h0 es es' hb ho ho' h1
  obtain ⟨c', m1, m2⟩ := idxE_same k2 0 h2
  exact ⟨ces', clk, i, c', k1, m1, by rw [m2]; exact h4⟩

theorem TailAt.mono {E E' : Env} (x : Ext E E') {b o cap sz n : Nat} : ∀ {t : Tail}, TailAt E b o cap sz n t → TailAt E' b o cap sz n t
  | .full, h => h
  | .shut, _ => trivial
  | .tok k, h => by
    obtain ⟨m, hm, hle, hy⟩ := h
    obtain ⟨m', hm', hle', hs⟩ := x.tok k m hm
    refine ⟨m', hm', by omega, fun e => ?_⟩
    have e1 : m = n * sz := by omega
    obtain ⟨ht, ho, cur, e', hc, hsz⟩ := hy e1
    obtain ⟨ht', hb⟩ := hs (by omega)
    obtain ⟨cur', hc1, hc2⟩ := hb cur e' (by rw [ht]; exact hc)
    exact ⟨ht'.trans ht, ho, cur', e', by rw [← ht]; exact hc1, hc2.trans hsz⟩

mutual
theorem Rep.mono {E E' : Env} (x : Ext E E') : ∀ {a : AV} {y : Value}, Rep E a y → Rep E' a y
  | _, _, .any y => .any y
  | _, _, .v y => .v y
  | _, _, .agg h h1 => .agg (RepL.mono x h) h1
  | _, _, .tup h => .tup (RepL.mono x h)
  | _, _, .slE a cap h1 h2 => .slE a cap h1 h2
  | _, _, .sl (xs := xs) (vs := vs) b o cap sz h0 h1 h2 h3 h4 h5 h6 h7 =>
    .sl b o cap sz h0 (RepL.mono x h1) h2 h3 (h4.of_same fun j hj => x.cell' h5 (by rw [length_flat h2, RepL.length h1] at hj; exact hj)) (x.safe' h5) h6 (h7.mono x)
  | _, _, .fp b o h1 h2 h3 => .fp b o (Rep.mono x h1) (h2.of_same fun j hj => x.cell' h3 (by simpa using hj)) (x.safe' h3)
  | _, _, .lsl h h1 => .lsl (h.mono x) h1
  | _, _, .ref b cs h1 h2 => by
    obtain ⟨⟨cs', h3⟩, h4⟩ := x.cellsO h1
    exact .ref b cs' h3 (h4.trans h2)
  | _, _, .refB b s h1 h2 => by
    obtain ⟨⟨s', h3⟩, h4⟩ := x.bldO h1
    exact .refB b s' h3 (h4.trans h2)
  | _, _, .er h h1 => .er (h.mono x) h1
  | _, _, .lm b g es h1 h2 => by
    obtain ⟨⟨g', cs', h3, _⟩, h4⟩ := x.mapO h1
    exact .lm b g' cs' h3 (h4.trans h2)
  | _, _, .itS b s p h1 h2 => by
    obtain ⟨⟨s', p', h3⟩, h4⟩ := x.siterO h1
    exact .itS b s' p' h3 (h4.trans h2)
  | _, _, .itM b m g ks h1 h2 => by
    obtain ⟨⟨s', g', p', h3⟩, h4⟩ := x.miterO h1
    exact .itM b s' g' p' h3 (h4.trans h2)
  | _, _, .stm h h1 => .stm (h.mono x) h1
  | _, _, .fn h1 h2 => .fn (RepL.mono x h1) (RepL.mono x h2)
  | _, _, .ifc h => .ifc (Rep.mono x h)
theorem RepL.mono {E E' : Env} (x : Ext E E') : ∀ {as : List AV} {ys : List Value}, RepL E as ys → RepL E' as ys
  | _, _, .nil => .nil
  | _, _, .cons h hs => .cons (Rep.mono x h) (RepL.mono x hs)
end
