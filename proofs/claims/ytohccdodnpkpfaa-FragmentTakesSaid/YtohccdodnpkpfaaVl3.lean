/- Value logic, part 3: rows that move, and rows that are only appended to. -/
import Derived.Test.YtohccdodnpkpfaaVl2
set_option linter.unusedVariables false
set_option linter.unusedSimpArgs false
namespace Go.VL
open Go.RowKit

/-! ### K5: a row moves into a new block -/
def Env.move (E : Env) (w' : World) (l : Nat) (o : AO) : Env := { E with w := w', O := E.O.set l o, pl := updN E.pl l (some E.w.heap.size) }

theorem Env.move_ext {E : Env} (r : R E) {w' : World} {l sz g : Nat} {xs xs' : List AV} (hl : E.O[l]? = some (.arr sz g xs)) (hb : Below E.w.heap.size E.w w') :
    Ext E (E.move w' l (.arr sz (g + 1) xs')) where
  base_eq := rfl
  w0_eq := rfl
  safe := fun b hi h => h
  old := fun _ _ h _ => h
  cell := fun b' hi j h hj => cell_of_heap (hb.block b' (r.Flt b' hi h))
  objs := fun k ok h => by
    by_cases hk : k = l
    · subst hk
      rw [hl] at h; injection h with h; subst h
      exact ⟨_, get_set_self hl, ⟨rfl, Nat.le_succ g⟩, .inl (Nat.lt_succ_self g)⟩
    · exact ⟨ok, (get_set_ne hk).trans h, AO.le_refl _, .inr ⟨updN_ne _ _ hk, fun b' hb' => SameSize.of_eq (hb.block b' (r.plOk k b' (lt_of_get h) hb').2.1)⟩⟩
  keys := KeysKept.of_blocks fun m bm g es h1 h2 => hb.block bm (r.plOk m bm (lt_of_get h2) h1).2.1
  tok := fun t m h => ⟨m, h, Nat.le_refl _, fun _ => ⟨rfl, by
    obtain ⟨cur, e, hc, _⟩ := (r.tkOk t m h).2.1
    exact SameSize.of_eq (hb.block _ (Array.getElem?_eq_some_iff.1 hc).1)⟩⟩

theorem Env.move_R {E : Env} (r : R E) {w' : World} {l sz g : Nat} {xs xs' : List AV} (hl : E.O[l]? = some (.arr sz g xs)) (hb : Below E.w.heap.size E.w w') (hn : E.w.heap.size < w'.heap.size)
    (ho : ObjAt (E.move w' l (.arr sz (g + 1) xs')) l (.arr sz (g + 1) xs')) : R (E.move w' l (.arr sz (g + 1) xs')) := by
  have x := Env.move_ext (xs' := xs') r hl hb
  have hll := lt_of_get hl
  have hlen : (E.move w' l (.arr sz (g + 1) xs')).O.length = E.O.length := by simp [Env.move]
  have hpl : ∀ k, k ≠ l → (E.move w' l (.arr sz (g + 1) xs')).pl k = E.pl k := fun k hk => updN_ne _ _ hk
  have hpn : (E.move w' l (.arr sz (g + 1) xs')).pl l = some E.w.heap.size := updN_same _ _ _
  have hble := r.base_le
  refine ⟨(Turn.of_below hb E.base).below r (Nat.le_refl _), Nat.le_trans r.base_le hb.size, fun b' hi h => Nat.lt_of_lt_of_le (r.Flt b' hi h) hb.size, ?_, ?_, ?_, r.tkInj, ?_, ?_⟩
  · intro k b' hk h
    by_cases e : k = l
    · subst e; rw [hpn] at h; injection h with h; subst h
      exact ⟨hble, hn, fun hi hf => absurd (r.Flt _ hi hf) (by omega)⟩
    · rw [hpl k e] at h
      obtain ⟨h1, h2, h3⟩ := r.plOk k b' (hlen ▸ hk) h
      exact ⟨h1, Nat.lt_of_lt_of_le h2 hb.size, h3⟩
  · intro k k' b' hk hk' h h'
    rw [hlen] at hk hk'
    by_cases e : k = l <;> by_cases e' : k' = l
    · omega
    · subst e; rw [hpn] at h; injection h with h; rw [hpl k' e'] at h'; have := (r.plOk k' b' hk' h').2.1; omega
    · subst e'; rw [hpn] at h'; injection h' with h'; rw [hpl k e] at h; have := (r.plOk k b' hk h).2.1; omega
    · rw [hpl k e] at h; rw [hpl k' e'] at h'; exact r.plInj k k' b' hk hk' h h'
  · intro t m h
    obtain ⟨h1, ⟨cur, e, h2, h2'⟩, h3⟩ := r.tkOk t m h
    exact ⟨h1, ⟨cur, e, (hb.block _ (Array.getElem?_eq_some_iff.1 h2).1).trans h2, h2'⟩, h3⟩
  · intro k b' t hk h htt
    rw [hlen] at hk
    by_cases e : k = l
    · subst e; rw [hpn] at h; injection h with h
      obtain ⟨cur, e, h2, _⟩ := (r.tkOk t _ (List.getElem?_eq_getElem htt)).2.1
      have : E.tk t < E.w.heap.size := (Array.getElem?_eq_some_iff.1 h2).1
      show E.tk t ≠ b'
      omega
    · rw [hpl k e] at h; exact r.plTk k b' t hk h htt
  · intro k ok h
    rcases get_set (show (E.O.set l _)[k]? = some ok from h) with ⟨rfl, rfl⟩ | ⟨hne, h⟩
    · exact ho
    · exact (r.obj k ok h).mono x (hpl k hne) fun b' hb' => hb.block b' (r.plOk k b' (lt_of_get h) hb').2.1

/-! ### K8: a new row of the appending kind -/
def Env.newtok (E : Env) (w' : World) (m : Nat) : Env := { E with w := w', G := E.G ++ [m], tk := updN E.tk E.G.length E.w.heap.size, F := fun b hi => E.F b hi ∨ (b = E.w.heap.size ∧ hi ≤ m) }

theorem Env.newtok_ext {E : Env} (r : R E) {w' : World} (m : Nat) (hb : Below E.w.heap.size E.w w') : Ext E (E.newtok w' m) where
  base_eq := rfl
  w0_eq := rfl
  safe := fun b hi h => .inl h
  old := fun b hi h hb => h.resolve_right (fun e => by have := r.base_le; omega)
  cell := fun b' hi j h hj => cell_of_heap (hb.block b' (r.Flt b' hi h))
  objs := fun k ok h => ⟨ok, h, AO.le_refl _, .inr ⟨rfl, fun b' hb' => SameSize.of_eq (hb.block b' (r.plOk k b' (lt_of_get h) hb').2.1)⟩⟩
  keys := KeysKept.of_blocks fun m bm g es h1 h2 => hb.block bm (r.plOk m bm (lt_of_get h2) h1).2.1
  tok := fun t m' h => ⟨m', (getElem?_snoc_lt (lt_of_get h)).trans h, Nat.le_refl _, fun _ => ⟨updN_ne _ _ (by have := lt_of_get h; omega), by
    obtain ⟨cur, e, hc, _⟩ := (r.tkOk t m' h).2.1
    exact SameSize.of_eq (hb.block _ (Array.getElem?_eq_some_iff.1 hc).1)⟩⟩

theorem Env.newtok_R {E : Env} (r : R E) {w' : World} {m : Nat} (hb : Below E.w.heap.size E.w w') {cur : Array Value} {e : TypeId}
    (hn : w'.heap[E.w.heap.size]? = some (.cells cur e (0, 0))) (hm : m ≤ cur.size) : R (E.newtok w' m) := by
  have x := Env.newtok_ext r m hb
  have hlt : E.w.heap.size < w'.heap.size := (Array.getElem?_eq_some_iff.1 hn).1
  have hlen : (E.newtok w' m).G.length = E.G.length + 1 := by simp [Env.newtok]
  have htk : ∀ t, t < E.G.length → (E.newtok w' m).tk t = E.tk t := fun t ht => updN_ne _ _ (by omega)
  have htn : (E.newtok w' m).tk E.G.length = E.w.heap.size := updN_same _ _ _
  have htlt : ∀ t, t < E.G.length → E.tk t < E.w.heap.size := fun t ht => by
    obtain ⟨cur, e, h2, _⟩ := (r.tkOk t _ (List.getElem?_eq_getElem ht)).2.1
    exact (Array.getElem?_eq_some_iff.1 h2).1
  have hble := r.base_le
  refine ⟨(Turn.of_below hb E.base).below r (Nat.le_refl _), Nat.le_trans r.base_le hb.size, ?_, ?_, r.plInj, ?_, ?_, ?_, ?_⟩
  · rintro b hi (h | ⟨rfl, h⟩)
    · exact Nat.lt_of_lt_of_le (r.Flt b hi h) hb.size
    · exact hlt
  · intro l b hl h
    obtain ⟨h1, h2, h3⟩ := r.plOk l b hl h
    refine ⟨h1, Nat.lt_of_lt_of_le h2 hb.size, ?_⟩
    rintro hi (h | ⟨rfl, h⟩)
    · exact h3 hi h
    · omega
  · intro t m' h
    rcases getElem?_snoc_some (show (E.G ++ [m])[t]? = some m' from h) with h | ⟨rfl, rfl⟩
    · have ht := lt_of_get h
      obtain ⟨h1, ⟨cur, e, h2, h2'⟩, h3⟩ := r.tkOk t m' h
      rw [htk t ht]
      refine ⟨h1, ⟨cur, e, (hb.block _ (htlt t ht)).trans h2, h2'⟩, ?_⟩
      rintro hi (h | ⟨he, h⟩)
      · exact h3 hi h
      · have := htlt t ht; omega
    · rw [htn]
      refine ⟨hble, ⟨cur, e, hn, hm⟩, ?_⟩
      rintro hi (h | ⟨he, h⟩)
      · exact absurd (r.Flt _ hi h) (by omega)
      · exact h
  · intro t t' ht ht' h
    rw [hlen] at ht ht'
    rcases Nat.lt_or_ge t E.G.length with h1 | h1 <;> rcases Nat.lt_or_ge t' E.G.length with h2 | h2
    · rw [htk t h1, htk t' h2] at h; exact r.tkInj t t' h1 h2 h
    · obtain rfl : t' = E.G.length := by omega
      rw [htk t h1, htn] at h; have := htlt t h1; omega
    · obtain rfl : t = E.G.length := by omega
      rw [htk t' h2, htn] at h; have := htlt t' h2; omega
    · omega
  · intro l b t hl h ht
    rw [hlen] at ht
    rcases Nat.lt_or_ge t E.G.length with h1 | h1
    · rw [htk t h1]; exact r.plTk l b t hl h h1
    · obtain rfl : t = E.G.length := by omega
      rw [htn]; have h2 : b < E.w.heap.size := (r.plOk l b hl h).2.1; omega
  · intro l o h
    exact (r.obj l o h).mono x rfl fun b' hb' => hb.block b' (r.plOk l b' (lt_of_get h) hb').2.1

/-! ### K7: a row of the appending kind moves -/
def Env.movetok (E : Env) (w' : World) (t m : Nat) : Env := { E with w := w', G := E.G.set t m, tk := updN E.tk t E.w.heap.size, F := fun b hi => E.F b hi ∨ (b = E.w.heap.size ∧ hi ≤ m) }

theorem Env.movetok_ext {E : Env} (r : R E) {w' : World} {t m m0 : Nat} (h0 : E.G[t]? = some m0) (hlt : m0 < m) (hb : Below E.w.heap.size E.w w') : Ext E (E.movetok w' t m) where
  base_eq := rfl
  w0_eq := rfl
  safe := fun b hi h => .inl h
  old := fun b hi h hb => h.resolve_right (fun e => by have := r.base_le; omega)
  cell := fun b' hi j h hj => cell_of_heap (hb.block b' (r.Flt b' hi h))
  objs := fun k ok h => ⟨ok, h, AO.le_refl _, .inr ⟨rfl, fun b' hb' => SameSize.of_eq (hb.block b' (r.plOk k b' (lt_of_get h) hb').2.1)⟩⟩
  keys := KeysKept.of_blocks fun m bm g es h1 h2 => hb.block bm (r.plOk m bm (lt_of_get h2) h1).2.1
  tok := fun k m' h => by
    by_cases hk : k = t
    · subst hk
      rw [h0] at h; injection h with h; subst h
      exact ⟨m, get_set_self h0, Nat.le_of_lt hlt, fun e => by omega⟩
    · refine ⟨m', (get_set_ne hk).trans h, Nat.le_refl _, fun _ => ⟨updN_ne _ _ hk, ?_⟩⟩
      obtain ⟨cur, e, hc, _⟩ := (r.tkOk k m' h).2.1
      exact SameSize.of_eq (hb.block _ (Array.getElem?_eq_some_iff.1 hc).1)

theorem Env.movetok_R {E : Env} (r : R E) {w' : World} {t m m0 : Nat} (h0 : E.G[t]? = some m0) (hlt0 : m0 < m) (hb : Below E.w.heap.size E.w w') {cur : Array Value} {e : TypeId}
    (hn : w'.heap[E.w.heap.size]? = some (.cells cur e (0, 0))) (hm : m ≤ cur.size) : R (E.movetok w' t m) := by
  have x := Env.movetok_ext r h0 hlt0 hb
  have hlt : E.w.heap.size < w'.heap.size := (Array.getElem?_eq_some_iff.1 hn).1
  have ht0 := lt_of_get h0
  have hlen : (E.movetok w' t m).G.length = E.G.length := by simp [Env.movetok]
  have htk : ∀ k, k ≠ t → (E.movetok w' t m).tk k = E.tk k := fun k hk => updN_ne _ _ hk
  have htn : (E.movetok w' t m).tk t = E.w.heap.size := updN_same _ _ _
  have htlt : ∀ t, t < E.G.length → E.tk t < E.w.heap.size := fun t ht => by
    obtain ⟨cur, e, h2, _⟩ := (r.tkOk t _ (List.getElem?_eq_getElem ht)).2.1
    exact (Array.getElem?_eq_some_iff.1 h2).1
  have hble := r.base_le
  refine ⟨(Turn.of_below hb E.base).below r (Nat.le_refl _), Nat.le_trans r.base_le hb.size, ?_, ?_, r.plInj, ?_, ?_, ?_, ?_⟩
  · rintro b hi (h | ⟨rfl, h⟩)
    · exact Nat.lt_of_lt_of_le (r.Flt b hi h) hb.size
    · exact hlt
  · intro l b hl h
    obtain ⟨h1, h2, h3⟩ := r.plOk l b hl h
    refine ⟨h1, Nat.lt_of_lt_of_le h2 hb.size, ?_⟩
    rintro hi (h | ⟨rfl, h⟩)
    · exact h3 hi h
    · omega
  · intro k m' h
    rcases get_set (show (E.G.set t m)[k]? = some m' from h) with ⟨rfl, rfl⟩ | ⟨hne, h⟩
    · rw [htn]
      refine ⟨hble, ⟨cur, e, hn, hm⟩, ?_⟩
      rintro hi (h | ⟨he, h⟩)
      · exact absurd (r.Flt _ hi h) (by omega)
      · exact h
    · have ht := lt_of_get h
      obtain ⟨h1, ⟨cur, e, h2, h2'⟩, h3⟩ := r.tkOk k m' h
      rw [htk k hne]
      refine ⟨h1, ⟨cur, e, (hb.block _ (htlt k ht)).trans h2, h2'⟩, ?_⟩
      rintro hi (h | ⟨he, h⟩)
      · exact h3 hi h
      · have := htlt k ht; omega
  · intro k k' hk hk' h
    rw [hlen] at hk hk'
    by_cases h1 : k = t <;> by_cases h2 : k' = t
    · omega
    · subst h1; rw [htn, htk k' h2] at h; have := htlt k' hk'; omega
    · subst h2; rw [htn, htk k h1] at h; have := htlt k hk; omega
    · rw [htk k h1, htk k' h2] at h; exact r.tkInj k k' hk hk' h
  · intro l b k hl h hk
    rw [hlen] at hk
    by_cases h1 : k = t
    · subst h1; rw [htn]; have h2 : b < E.w.heap.size := (r.plOk l b hl h).2.1; omega
    · rw [htk k h1]; exact r.plTk l b k hl h hk
  · intro l o h
    exact (r.obj l o h).mono x rfl fun b' hb' => hb.block b' (r.plOk l b' (lt_of_get h) hb').2.1

/-! ### K6: a row of the appending kind grows where it lies -/
def Env.growtok (E : Env) (w' : World) (t m : Nat) : Env := { E with w := w', G := E.G.set t m, F := fun b hi => E.F b hi ∨ (b = E.tk t ∧ hi ≤ m) }

theorem Env.growtok_ext {E : Env} (r : R E) {w' : World} {t m m0 : Nat} (h0 : E.G[t]? = some m0) (hle : m0 ≤ m) (ht : Turn E w' (E.tk t)) (hs : SameSize E.w w' (E.tk t))
    (hc : ∀ j, j < m0 → w'.cell? ⟨E.tk t, j, none⟩ = E.w.cell? ⟨E.tk t, j, none⟩) : Ext E (E.growtok w' t m) where
  base_eq := rfl
  w0_eq := rfl
  safe := fun b hi h => .inl h
  old := fun b hi h hb => h.resolve_right (fun e => by have := (r.tkOk t m0 h0).1; omega)
  cell := fun b' hi j h hj => by
    by_cases e : b' = E.tk t
    · subst e
      have := (r.tkOk t m0 h0).2.2 hi h
      exact hc j (by omega)
    · exact cell_of_heap (ht.block b' (r.Flt b' hi h) e)
  objs := fun k ok h => ⟨ok, h, AO.le_refl _, .inr ⟨rfl, fun b' hb' => SameSize.of_eq (ht.block b' (r.plOk k b' (lt_of_get h) hb').2.1 (fun e => r.plTk k b' t (lt_of_get h) hb' (lt_of_get h0) e.symm))⟩⟩
  keys := KeysKept.of_blocks fun m bm g es h1 h2 => ht.block bm (r.plOk m bm (lt_of_get h2) h1).2.1 (fun e => r.plTk m bm t (lt_of_get h2) h1 (lt_of_get h0) e.symm)
  tok := fun k m' h => by
    by_cases hk : k = t
    · subst hk
      rw [h0] at h; injection h with h; subst h
      exact ⟨m, get_set_self h0, hle, fun e => ⟨rfl, hs⟩⟩
    · refine ⟨m', (get_set_ne hk).trans h, Nat.le_refl _, fun _ => ⟨rfl, ?_⟩⟩
      obtain ⟨cur, e, hc, _⟩ := (r.tkOk k m' h).2.1
      exact SameSize.of_eq (ht.block _ (Array.getElem?_eq_some_iff.1 hc).1 (fun e => hk (r.tkInj k t (lt_of_get h) (lt_of_get h0) e)))

theorem Env.growtok_R {E : Env} (r : R E) {w' : World} {t m m0 : Nat} (h0 : E.G[t]? = some m0) (hle : m0 ≤ m) (ht : Turn E w' (E.tk t)) (hs : SameSize E.w w' (E.tk t))
    (hc : ∀ j, j < m0 → w'.cell? ⟨E.tk t, j, none⟩ = E.w.cell? ⟨E.tk t, j, none⟩) {cur : Array Value} {e : TypeId}
    (hn : w'.heap[E.tk t]? = some (.cells cur e (0, 0))) (hm : m ≤ cur.size) : R (E.growtok w' t m) := by
  have x := Env.growtok_ext r h0 hle ht hs hc
  have hlt : E.tk t < w'.heap.size := (Array.getElem?_eq_some_iff.1 hn).1
  have hlen : (E.growtok w' t m).G.length = E.G.length := by simp [Env.growtok]
  obtain ⟨hb0, ⟨cur0, e0, hc0, _⟩, hF0⟩ := r.tkOk t m0 h0
  have ht0 := lt_of_get h0
  have htlt : ∀ t, t < E.G.length → E.tk t < E.w.heap.size := fun t ht => by
    obtain ⟨cur, e, h2, _⟩ := (r.tkOk t _ (List.getElem?_eq_getElem ht)).2.1
    exact (Array.getElem?_eq_some_iff.1 h2).1
  refine ⟨ht.below r hb0, Nat.le_trans r.base_le ht.size, ?_, ?_, r.plInj, ?_, ?_, ?_, ?_⟩
  · rintro b hi (h | ⟨rfl, h⟩)
    · exact Nat.lt_of_lt_of_le (r.Flt b hi h) ht.size
    · exact hlt
  · intro l b hl h
    obtain ⟨h1, h2, h3⟩ := r.plOk l b hl h
    refine ⟨h1, Nat.lt_of_lt_of_le h2 ht.size, ?_⟩
    rintro hi (h' | ⟨rfl, h'⟩)
    · exact h3 hi h'
    · exact r.plTk l _ t hl h ht0 rfl
  · intro k m' h
    rcases get_set (show (E.G.set t m)[k]? = some m' from h) with ⟨rfl, rfl⟩ | ⟨hne, h⟩
    · refine ⟨hb0, ⟨cur, e, hn, hm⟩, ?_⟩
      rintro hi (h | ⟨he, h⟩)
      · have := hF0 hi h; omega
      · exact h
    · have hk := lt_of_get h
      have hne' : E.tk k ≠ E.tk t := fun e => hne (r.tkInj k t hk ht0 e)
      obtain ⟨h1, ⟨cur, e, h2, h2'⟩, h3⟩ := r.tkOk k m' h
      refine ⟨h1, ⟨cur, e, (ht.block _ (htlt k hk) hne').trans h2, h2'⟩, ?_⟩
      rintro hi (h | ⟨he, h⟩)
      · exact h3 hi h
      · exact absurd he hne'
  · intro k k' hk hk' h
    exact r.tkInj k k' (hlen ▸ hk) (hlen ▸ hk') h
  · intro l b k hl h hk
    exact r.plTk l b k hl h (hlen ▸ hk)
  · intro l o h
    have hne : ∀ l b o, E.O[l]? = some o → E.pl l = some b → b ≠ E.tk t := fun l b o h hb e => r.plTk l b t (lt_of_get h) hb ht0 e.symm
    exact (r.obj l o h).mono x rfl fun b' hb' => ht.block b' (r.plOk l b' (lt_of_get h) hb').2.1 (hne l b' _ h hb')
end Go.VL
