/- Value logic, part 2: what is asked of an environment, and the steps that keep it. -/
import Derived.Test.YtohccdodnpkpfaaVl1
set_option linter.unusedVariables false
set_option linter.unusedSimpArgs false
namespace Go.VL
open Go.RowKit

inductive RepE (E : Env) : List (Value × AV) → List MapEntry → Prop
  | nil : RepE E [] []
  | cons {k : Value} {a : AV} {es : List (Value × AV)} {c : MapEntry} {cs : List MapEntry} : c.key = k → Rep E a c.val → RepE E es cs → RepE E ((k, a) :: es) (c :: cs)

theorem RepE.mono {E E' : Env} (x : Ext E E') {es : List (Value × AV)} {cs : List MapEntry} (h : RepE E es cs) : RepE E' es cs := by
  induction h with
  | nil => exact .nil
  | cons h1 h2 _ ih => exact .cons h1 (h2.mono x) ih

theorem RepE.keys {E : Env} {es : List (Value × AV)} {cs : List MapEntry} (h : RepE E es cs) : es.map Prod.fst = cs.map (·.key) := by
  induction h with
  | nil => rfl
  | cons h1 h2 _ ih => simp [h1, ih]

/-- What location l holds. -/
def ObjAt (E : Env) (l : Nat) : AO → Prop
  | .cells cs => ∃ b vs e, E.pl l = some b ∧ E.w.heap[b]? = some (.cells (List.toArray vs) e (0, 0)) ∧ RepL E cs vs ∧ ∀ u ∈ vs, u.oneCell' = true
  | .arr sz _ xs => 0 < sz ∧ ((E.pl l = none ∧ xs = []) ∨ ∃ b cur e vs, E.pl l = some b ∧ E.w.heap[b]? = some (.cells cur e (0, 0)) ∧ RepL E xs vs ∧
      (∀ u ∈ vs, u.cells.size = sz ∧ ∀ c ∈ u.cells.toList, c.oneCell' = true) ∧ cur.toList.take (xs.length * sz) = flat vs)
  | .map _ es => ∃ b ces clk, E.pl l = some b ∧ E.w.heap[b]? = some (.map ces clk) ∧ RepE E es ces.toList ∧ (ces.toList.Pairwise fun a b => a.born < b.born) ∧
      (∀ c ∈ ces.toList, c.born < clk) ∧ (es.map Prod.fst).Nodup
  | .siter s p => ∃ b, E.pl l = some b ∧ E.w.heap[b]? = some (.stringIter s p)
  | .miter m g left => ∃ b bm since seen stepped, E.pl l = some b ∧ E.w.heap[b]? = some (.mapIter (some bm) since seen stepped) ∧ E.pl m = some bm ∧
      (∃ g' es, E.O[m]? = some (.map g' es) ∧ g ≤ g') ∧
      ∀ es, E.O[m]? = some (.map g es) → ∃ ces, E.w.heap[bm]? = some (.map ces since) ∧ stepped ≤ since ∧ (seen.isEmpty = false → stepped = since) ∧
        left = (ces.toList.filter fun e => !seen.contains e.born).map (·.key)
  | .bld _ => False

structure R (E : Env) : Prop where
  below : Below E.base E.w0 E.w
  base_le : E.base ≤ E.w.heap.size
  Flt : ∀ b hi, E.F b hi → b < E.w.heap.size
  plOk : ∀ l b, l < E.O.length → E.pl l = some b → E.base ≤ b ∧ b < E.w.heap.size ∧ ∀ hi, ¬ E.F b hi
  plInj : ∀ l l' b, l < E.O.length → l' < E.O.length → E.pl l = some b → E.pl l' = some b → l = l'
  tkOk : ∀ t m, E.G[t]? = some m → E.base ≤ E.tk t ∧ (∃ cur e, E.w.heap[E.tk t]? = some (.cells cur e (0, 0)) ∧ m ≤ cur.size) ∧ ∀ hi, E.F (E.tk t) hi → hi ≤ m
  tkInj : ∀ t t', t < E.G.length → t' < E.G.length → E.tk t = E.tk t' → t = t'
  plTk : ∀ l b t, l < E.O.length → E.pl l = some b → t < E.G.length → E.tk t ≠ b
  obj : ∀ l o, E.O[l]? = some o → ObjAt E l o

theorem filter_keys {l l' : List MapEntry} (seen : Array Nat) (h : l'.map (fun e => (e.key, e.born)) = l.map (fun e => (e.key, e.born))) :
    (l'.filter fun e => !seen.contains e.born).map (·.key) = (l.filter fun e => !seen.contains e.born).map (·.key) := by
  have key : ∀ l : List MapEntry, (l.filter fun e => !seen.contains e.born).map (·.key) = ((l.map (fun e => (e.key, e.born))).filter fun p => !seen.contains p.2).map (·.1) := by
    intro l
    induction l with
    | nil => rfl
    | cons e l ih =>
      by_cases hc : (!seen.contains e.born) = true
      · simp only [List.filter_cons, List.map_cons, hc, if_true, ih]
      · simp only [List.filter_cons, List.map_cons, if_neg hc, ih]
  rw [key, key, h]

theorem ObjAt.mono {E E' : Env} (x : Ext E E') {l : Nat} : ∀ {o : AO}, ObjAt E l o → E'.pl l = E.pl l → (∀ b, E.pl l = some b → E'.w.heap[b]? = E.w.heap[b]?) → ObjAt E' l o
  | .cells cs, ⟨b, vs, e, h1, h2, h3, h4⟩, hpl, hb => ⟨b, vs, e, hpl.trans h1, (hb b h1).trans h2, h3.mono x, h4⟩
  | .arr sz _ xs, ⟨h0, h⟩, hpl, hb => by
    refine ⟨h0, ?_⟩
    rcases h with ⟨h1, h2⟩ | ⟨b, cur, e, vs, h1, h2, h3, h4, h5⟩
    · exact .inl ⟨hpl.trans h1, h2⟩
    · exact .inr ⟨b, cur, e, vs, hpl.trans h1, (hb b h1).trans h2, h3.mono x, h4, h5⟩
  | .map _ es, ⟨b, ces, clk, h1, h2, h3, h4, h5, h6⟩, hpl, hb => ⟨b, ces, clk, hpl.trans h1, (hb b h1).trans h2, h3.mono x, h4, h5, h6⟩
  | .siter s p, ⟨b, h1, h2⟩, hpl, hb => ⟨b, hpl.trans h1, (hb b h1).trans h2⟩
  | .miter m g left, ⟨b, bm, since, seen, stepped, h1, h2, h3, ⟨g', es, h4, h5⟩, h6⟩, hpl, hb => by
    obtain ⟨⟨g2, es2, h7, h8⟩, h9⟩ := x.mapO h4
    refine ⟨b, bm, since, seen, stepped, hpl.trans h1, (hb b h1).trans h2, h9.trans h3, ⟨g2, es2, h7, by omega⟩, fun es3 h10 => ?_⟩
    rw [h7] at h10
    injection h10 with h10
    injection h10 with e1 e2
    subst e1; subst e2
    have e3 : g' = g2 := by omega
    subst e3
    obtain ⟨ces, k1, k2, k3, k4⟩ := h6 es h4
    obtain ⟨ces', k5, k6⟩ := x.keys m bm ces since g' es es2 h3 h4 h7 k1
    exact ⟨ces', k5, k2, k3, k4.trans (filter_keys seen k6).symm⟩
  | .bld _, h, _, _ => h.elim

theorem SameSize.of_eq {w w' : World} {b : Nat} (h : w'.heap[b]? = w.heap[b]?) : SameSize w w' b := fun cur e hc => ⟨cur, h.trans hc, rfl⟩

theorem cell_of_heap {w w' : World} {b j : Nat} (h : w'.heap[b]? = w.heap[b]?) : w'.cell? ⟨b, j, none⟩ = w.cell? ⟨b, j, none⟩ := World.cell?_of_block (w := w) (a := ⟨b, j, none⟩) h

theorem AO.le_refl : ∀ o : AO, AO.le o o
  | .cells _ | .map _ _ | .siter _ _ | .miter _ _ _ | .bld _ => by simp [AO.le]
  | .arr _ _ _ => by simp [AO.le]

/-- Only one old block has turned, or none: what all steps below share. d: that block (a number that is no old block's, where there is none). -/
structure Turn (E : Env) (w' : World) (d : Nat) : Prop where
  os : w'.os = E.w.os
  tape : w'.tape = E.w.tape
  output : w'.output = E.w.output
  size : E.w.heap.size ≤ w'.heap.size
  block : ∀ k, k < E.w.heap.size → k ≠ d → w'.heap[k]? = E.w.heap[k]?

theorem Turn.below {E : Env} (r : R E) {w' : World} {d : Nat} (t : Turn E w' d) (hd : E.base ≤ d) : Below E.base E.w0 w' := by
  refine ⟨t.os.trans r.below.os, t.tape.trans r.below.tape, t.output.trans r.below.output, Nat.le_trans r.below.size t.size, fun k hk => ?_⟩
  have := r.base_le
  rw [t.block k (by omega) (by omega)]
  exact r.below.block k hk

theorem Turn.of_grown {E : Env} {w' : World} {d : Nat} (h : E.w.grownBy w' (some d)) : Turn E w' d :=
  ⟨h.os, h.tape, h.output, h.size, fun k hk hne => h.block k hk (by simpa using hne)⟩
theorem Turn.of_below {E : Env} {w' : World} (h : Below E.w.heap.size E.w w') (d : Nat) : Turn E w' d :=
  ⟨h.os, h.tape, h.output, h.size, fun k hk _ => h.block k hk⟩

theorem KeysKept.of_blocks {E E' : Env} (h : ∀ m bm g es, E.pl m = some bm → E.O[m]? = some (.map g es) → E'.w.heap[bm]? = E.w.heap[bm]?) : KeysKept E E' :=
  fun m bm ces clk g es es' h1 h2 h3 h4 => ⟨ces, (h m bm g es h1 h2).trans h4, rfl⟩

/-! ### K1: new memory that nobody writes into; draws -/
def Env.grow (E : Env) (w' : World) : Env := { E with w := w', F := fun b hi => E.F b hi ∨ (E.w.heap.size ≤ b ∧ b < w'.heap.size) }

theorem Env.grow_ext {E : Env} (r : R E) {w' : World} (hb : Below E.w.heap.size E.w w') : Ext E (E.grow w') where
  base_eq := rfl
  w0_eq := rfl
  safe := fun b hi h => .inl h
  old := fun b hi h hb => h.resolve_right (fun e => by have := r.base_le; omega)
  cell := fun b hi j h hj => cell_of_heap (hb.block b (r.Flt b hi h))
  objs := fun l o h => ⟨o, h, AO.le_refl o, .inr ⟨rfl, fun b hpl => SameSize.of_eq (hb.block b (r.plOk l b (List.getElem?_eq_some_iff.1 h).1 hpl).2.1)⟩⟩
  keys := KeysKept.of_blocks fun m bm g es h1 h2 => hb.block bm (r.plOk m bm (List.getElem?_eq_some_iff.1 h2).1 h1).2.1
  tok := fun t m h => ⟨m, h, Nat.le_refl _, fun _ => ⟨rfl, by
    obtain ⟨cur, e, hc, _⟩ := (r.tkOk t m h).2.1
    exact SameSize.of_eq (hb.block _ (Array.getElem?_eq_some_iff.1 hc).1)⟩⟩

theorem Env.grow_R {E : Env} (r : R E) {w' : World} (hb : Below E.w.heap.size E.w w') : R (E.grow w') := by
  have x := Env.grow_ext r hb
  have hblk : ∀ l b o, E.O[l]? = some o → E.pl l = some b → w'.heap[b]? = E.w.heap[b]? := fun l b o h hpl => hb.block b (r.plOk l b (List.getElem?_eq_some_iff.1 h).1 hpl).2.1
  refine ⟨(Turn.of_below hb E.base).below r (Nat.le_refl _), Nat.le_trans r.base_le hb.size, ?_, ?_, r.plInj, ?_, r.tkInj, r.plTk, ?_⟩
  · rintro b hi (h | h)
    · exact Nat.lt_of_lt_of_le (r.Flt b hi h) hb.size
    · exact h.2
  · intro l b hl hpl
    obtain ⟨h1, h2, h3⟩ := r.plOk l b hl hpl
    refine ⟨h1, Nat.lt_of_lt_of_le h2 hb.size, ?_⟩
    rintro hi (h | h)
    · exact h3 hi h
    · omega
  · intro t m h
    obtain ⟨h1, ⟨cur, e, h2, h2'⟩, h3⟩ := r.tkOk t m h
    have hlt := (Array.getElem?_eq_some_iff.1 h2).1
    refine ⟨h1, ⟨cur, e, (hb.block _ hlt).trans h2, h2'⟩, ?_⟩
    rintro hi (h | h)
    · exact h3 hi h
    · have h4 : E.w.heap.size ≤ E.tk t := h.1
      omega
  · intro l o h
    exact (r.obj l o h).mono x rfl fun b hpl => hblk l b o h hpl

/-! ### K2: a new location -/
def updN {α : Type} (f : Nat → α) (i : Nat) (a : α) : Nat → α := fun j => if j = i then a else f j
@[simp] theorem updN_same {α : Type} (f : Nat → α) (i : Nat) (a : α) : updN f i a i = a := by simp [updN]
theorem updN_ne {α : Type} (f : Nat → α) {i j : Nat} (a : α) (h : j ≠ i) : updN f i a j = f j := by simp [updN, h]

def Env.newloc (E : Env) (o : AO) (ob : Obj) : Env := { E with w := E.w.alloc ob, O := E.O ++ [o], pl := updN E.pl E.O.length (some E.w.heap.size) }

theorem getElem?_snoc_lt {α : Type} {l : List α} {a : α} {i : Nat} (h : i < l.length) : (l ++ [a])[i]? = l[i]? := by simp [List.getElem?_append, h]
theorem getElem?_snoc_self {α : Type} {l : List α} {a : α} : (l ++ [a])[l.length]? = some a := by simp
theorem getElem?_snoc_some {α : Type} {l : List α} {a b : α} {i : Nat} (h : (l ++ [a])[i]? = some b) : l[i]? = some b ∨ (i = l.length ∧ b = a) := by
  rcases Nat.lt_trichotomy i l.length with hi | hi | hi
  · exact .inl (by rwa [getElem?_snoc_lt hi] at h)
  · subst hi; rw [getElem?_snoc_self] at h; exact .inr ⟨rfl, by simpa using h.symm⟩
  · rw [List.getElem?_eq_none (by simp; omega)] at h; cases h
theorem lt_of_get {α : Type} {l : List α} {i : Nat} {a : α} (h : l[i]? = some a) : i < l.length := (List.getElem?_eq_some_iff.1 h).1

theorem Env.newloc_ext {E : Env} (r : R E) (o : AO) (ob : Obj) : Ext E (E.newloc o ob) where
  base_eq := rfl
  w0_eq := rfl
  safe := fun b hi h => h
  old := fun _ _ h _ => h
  cell := fun b hi j h hj => cell_of_heap (Below.heap_alloc _ _ _ (r.Flt b hi h))
  objs := fun l o' h => ⟨o', by have := lt_of_get h; simp [Env.newloc, List.getElem?_append, this]; simpa [List.getElem?_eq_getElem this] using h, AO.le_refl o', .inr ⟨updN_ne _ _ (by have := lt_of_get h; omega),
    fun b hpl => SameSize.of_eq (Below.heap_alloc _ _ _ (r.plOk l b (lt_of_get h) hpl).2.1)⟩⟩
  keys := KeysKept.of_blocks fun m bm g es h1 h2 => Below.heap_alloc _ _ _ (r.plOk m bm (lt_of_get h2) h1).2.1
  tok := fun t m h => ⟨m, h, Nat.le_refl _, fun _ => ⟨rfl, by
    obtain ⟨cur, e, hc, _⟩ := (r.tkOk t m h).2.1
    exact SameSize.of_eq (Below.heap_alloc _ _ _ (Array.getElem?_eq_some_iff.1 hc).1)⟩⟩

theorem Env.newloc_R {E : Env} (r : R E) (o : AO) (ob : Obj) (ho : ObjAt (E.newloc o ob) E.O.length o) : R (E.newloc o ob) := by
  have x := Env.newloc_ext r o ob
  have hlen : (E.newloc o ob).O.length = E.O.length + 1 := by simp [Env.newloc]
  have hpl : ∀ l, l < E.O.length → (E.newloc o ob).pl l = E.pl l := fun l hl => updN_ne _ _ (by omega)
  have hpn : (E.newloc o ob).pl E.O.length = some E.w.heap.size := updN_same _ _ _
  have hsz : (E.newloc o ob).w.heap.size = E.w.heap.size + 1 := World.size_alloc _ _
  have hblk : ∀ k, k < E.w.heap.size → (E.newloc o ob).w.heap[k]? = E.w.heap[k]? := fun k hk => Below.heap_alloc _ _ _ hk
  have cases_l : ∀ l, l < (E.newloc o ob).O.length → l < E.O.length ∨ l = E.O.length := fun l hl => by omega
  have hble := r.base_le
  refine ⟨r.below.alloc r.base_le ob, by rw [hsz]; exact Nat.le_succ_of_le r.base_le, fun b hi h => by rw [hsz]; exact Nat.lt_succ_of_lt (r.Flt b hi h), ?_, ?_, ?_, r.tkInj, ?_, ?_⟩
  · intro l b hl h
    rcases cases_l l hl with hl | rfl
    · rw [hpl l hl] at h
      obtain ⟨h1, h2, h3⟩ := r.plOk l b hl h
      exact ⟨h1, by rw [hsz]; omega, h3⟩
    · rw [hpn] at h
      injection h with h
      subst h
      exact ⟨hble, by rw [hsz]; omega, fun hi hf => absurd (r.Flt _ hi hf) (by omega)⟩
  · intro l l' b hl hl' h h'
    rcases cases_l l hl with hl | rfl <;> rcases cases_l l' hl' with hl' | rfl
    · rw [hpl l hl] at h; rw [hpl l' hl'] at h'; exact r.plInj l l' b hl hl' h h'
    · rw [hpl l hl] at h; rw [hpn] at h'; injection h' with h'; have := (r.plOk l b hl h).2.1; omega
    · rw [hpl l' hl'] at h'; rw [hpn] at h; injection h with h; have := (r.plOk l' b hl' h').2.1; omega
    · rfl
  · intro t m h
    obtain ⟨h1, ⟨cur, e, h2, h2'⟩, h3⟩ := r.tkOk t m h
    exact ⟨h1, ⟨cur, e, (hblk _ (Array.getElem?_eq_some_iff.1 h2).1).trans h2, h2'⟩, h3⟩
  · intro l b t hl h ht
    rcases cases_l l hl with hl | rfl
    · rw [hpl l hl] at h; exact r.plTk l b t hl h ht
    · rw [hpn] at h; injection h with h
      obtain ⟨cur, e, h2, _⟩ := (r.tkOk t _ (List.getElem?_eq_getElem ht)).2.1
      have : E.tk t < E.w.heap.size := (Array.getElem?_eq_some_iff.1 h2).1
      show E.tk t ≠ b
      omega
  · intro l o' h
    rcases getElem?_snoc_some (show (E.O ++ [o])[l]? = some o' from h) with h | ⟨rfl, rfl⟩
    · have hl := lt_of_get h
      exact (r.obj l o' h).mono x (hpl l hl) fun b hb => hblk b (r.plOk l b hl hb).2.1
    · exact ho

/-! ### K3: a new row that is nil -/
def Env.newnil (E : Env) (sz : Nat) : Env := { E with O := E.O ++ [.arr sz 0 []], pl := updN E.pl E.O.length none }

theorem Env.newnil_ext {E : Env} (r : R E) (sz : Nat) : Ext E (E.newnil sz) where
  base_eq := rfl
  w0_eq := rfl
  safe := fun b hi h => h
  old := fun _ _ h _ => h
  cell := fun b hi j h hj => rfl
  objs := fun l o' h => ⟨o', by have := lt_of_get h; simp [Env.newnil, List.getElem?_append, this]; simpa [List.getElem?_eq_getElem this] using h, AO.le_refl o', .inr ⟨updN_ne _ _ (by have := lt_of_get h; omega),
    fun b hpl => SameSize.of_eq rfl⟩⟩
  keys := KeysKept.of_blocks fun m bm g es h1 h2 => rfl
  tok := fun t m h => ⟨m, h, Nat.le_refl _, fun _ => ⟨rfl, SameSize.of_eq rfl⟩⟩

theorem Env.newnil_R {E : Env} (r : R E) {sz : Nat} (hsz : 0 < sz) : R (E.newnil sz) := by
  have x := Env.newnil_ext r sz
  have hlen : (E.newnil sz).O.length = E.O.length + 1 := by simp [Env.newnil]
  have hpl : ∀ l, l < E.O.length → (E.newnil sz).pl l = E.pl l := fun l hl => updN_ne _ _ (by omega)
  have hpn : (E.newnil sz).pl E.O.length = none := updN_same _ _ _
  have cases_l : ∀ l, l < (E.newnil sz).O.length → l < E.O.length ∨ l = E.O.length := fun l hl => by omega
  refine ⟨r.below, r.base_le, r.Flt, ?_, ?_, r.tkOk, r.tkInj, ?_, ?_⟩
  · intro l b hl h
    rcases cases_l l hl with hl | rfl
    · rw [hpl l hl] at h; exact r.plOk l b hl h
    · rw [hpn] at h; cases h
  · intro l l' b hl hl' h h'
    rcases cases_l l hl with hl | rfl <;> rcases cases_l l' hl' with hl' | rfl
    · rw [hpl l hl] at h; rw [hpl l' hl'] at h'; exact r.plInj l l' b hl hl' h h'
    · rw [hpn] at h'; cases h'
    · rw [hpn] at h; cases h
    · rfl
  · intro l b t hl h ht
    rcases cases_l l hl with hl | rfl
    · rw [hpl l hl] at h; exact r.plTk l b t hl h ht
    · rw [hpn] at h; cases h
  · intro l o' h
    rcases getElem?_snoc_some (show (E.O ++ [AO.arr sz 0 []])[l]? = some o' from h) with h | ⟨rfl, rfl⟩
    · have hl := lt_of_get h
      exact (r.obj l o' h).mono x (hpl l hl) fun b hb => rfl
    · exact ⟨hsz, .inl ⟨hpn, rfl⟩⟩

/-! ### K4: a location's own block is written -/
def Env.write (E : Env) (w' : World) (l : Nat) (o : AO) : Env := { E with w := w', O := E.O.set l o }

theorem get_set {α : Type} {L : List α} {l k : Nat} {a b : α} (h : (L.set l a)[k]? = some b) : (k = l ∧ b = a) ∨ (k ≠ l ∧ L[k]? = some b) := by
  rw [List.getElem?_set] at h
  split at h
  · rename_i e
    split at h
    · injection h with h; exact .inl ⟨e.symm, h.symm⟩
    · cases h
  · rename_i e; exact .inr ⟨fun h' => e h'.symm, h⟩
theorem get_set_self {α : Type} {L : List α} {l : Nat} {a b : α} (h : L[l]? = some b) : (L.set l a)[l]? = some a := by
  rw [List.getElem?_set]; simp [lt_of_get h]
theorem get_set_ne {α : Type} {L : List α} {l k : Nat} {a : α} (h : k ≠ l) : (L.set l a)[k]? = L[k]? := by
  rw [List.getElem?_set, if_neg (fun e => h e.symm)]

theorem Env.write_ext {E : Env} (r : R E) {w' : World} {l b : Nat} {o o' : AO} (hl : E.O[l]? = some o) (hpl : E.pl l = some b) (ht : Turn E w' b) (hle : AO.le o o')
    (hs : SameSize E.w w' b) (hk : KeysKept E (E.write w' l o')) : Ext E (E.write w' l o') where
  base_eq := rfl
  w0_eq := rfl
  safe := fun b hi h => h
  old := fun _ _ h _ => h
  cell := fun b' hi j h hj => cell_of_heap (ht.block b' (r.Flt b' hi h) (fun e => (r.plOk l b (lt_of_get hl) hpl).2.2 hi (e ▸ h)))
  objs := fun k ok h => by
    by_cases hk : k = l
    · subst hk
      rw [hl] at h; injection h with h; subst h
      exact ⟨o', get_set_self hl, hle, .inr ⟨rfl, fun b' hb' => by rw [hpl] at hb'; injection hb' with hb'; subst hb'; exact hs⟩⟩
    · refine ⟨ok, (get_set_ne hk).trans h, AO.le_refl _, .inr ⟨rfl, fun b' hb' => SameSize.of_eq (ht.block b' (r.plOk k b' (lt_of_get h) hb').2.1 ?_)⟩⟩
      intro e; subst e; exact hk (r.plInj k l b' (lt_of_get h) (lt_of_get hl) hb' hpl)
  keys := hk
  tok := fun t m h => ⟨m, h, Nat.le_refl _, fun _ => ⟨rfl, by
    obtain ⟨cur, e, hc, _⟩ := (r.tkOk t m h).2.1
    exact SameSize.of_eq (ht.block _ (Array.getElem?_eq_some_iff.1 hc).1 (r.plTk l b t (lt_of_get hl) hpl (lt_of_get h)))⟩⟩

theorem Env.write_R {E : Env} (r : R E) {w' : World} {l b : Nat} {o o' : AO} (hl : E.O[l]? = some o) (hpl : E.pl l = some b) (ht : Turn E w' b) (hle : AO.le o o')
    (hs : SameSize E.w w' b) (hk : KeysKept E (E.write w' l o')) (ho : ObjAt (E.write w' l o') l o') : R (E.write w' l o') := by
  have x := Env.write_ext r hl hpl ht hle hs hk
  have hll := lt_of_get hl
  have hlen : (E.write w' l o').O.length = E.O.length := by simp [Env.write]
  refine ⟨ht.below r (r.plOk l b hll hpl).1, Nat.le_trans r.base_le ht.size, fun b' hi h => Nat.lt_of_lt_of_le (r.Flt b' hi h) ht.size, ?_, ?_, ?_, r.tkInj, ?_, ?_⟩
  · intro k b' hk h
    obtain ⟨h1, h2, h3⟩ := r.plOk k b' (hlen ▸ hk) h
    exact ⟨h1, Nat.lt_of_lt_of_le h2 ht.size, h3⟩
  · intro k k' b' hk hk' h h'
    exact r.plInj k k' b' (hlen ▸ hk) (hlen ▸ hk') h h'
  · intro t m h
    obtain ⟨h1, ⟨cur, e, h2, h2'⟩, h3⟩ := r.tkOk t m h
    exact ⟨h1, ⟨cur, e, (ht.block _ (Array.getElem?_eq_some_iff.1 h2).1 (r.plTk l b t hll hpl (lt_of_get h))).trans h2, h2'⟩, h3⟩
  · intro k b' t hk h htt
    exact r.plTk k b' t (hlen ▸ hk) h htt
  · intro k ok h
    rcases get_set (show (E.O.set l o')[k]? = some ok from h) with ⟨rfl, rfl⟩ | ⟨hne, h⟩
    · exact ho
    · refine (r.obj k ok h).mono x rfl fun b' hb' => ht.block b' (r.plOk k b' (lt_of_get h) hb').2.1 ?_
      intro e; subst e; exact hne (r.plInj k l b' (lt_of_get h) hll hb' hpl)
end Go.VL
