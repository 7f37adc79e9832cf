/- Value logic, part 7: single operations. -/
import Derived.Test.YtohccdodnpkpfaaVl6
set_option linter.unusedVariables false
set_option linter.unusedSimpArgs false
namespace Go.VL
open Go.RowKit

theorem SameSize.trans {a b c : World} {k : Nat} (h : SameSize a b k) (h' : SameSize b c k) : SameSize a c k := fun cur e hc => by
  obtain ⟨cur', h1, h2⟩ := h cur e hc
  obtain ⟨cur2, h3, h4⟩ := h' cur' e h1
  exact ⟨cur2, h3, h4.trans h2⟩
theorem AO.le_trans : ∀ {a b c : AO}, AO.le a b → AO.le b c → AO.le a c := by
  intro a b c h h'
  cases a <;> cases b <;> simp [AO.le] at h <;> cases c <;> simp [AO.le] at h' ⊢
  · exact ⟨h'.1.trans h.1, Nat.le_trans h.2 h'.2⟩
  · omega
theorem Ext.refl (E : Env) : Ext E E where
  base_eq := rfl
  w0_eq := rfl
  safe := fun _ _ h => h
  old := fun _ _ h _ => h
  cell := fun _ _ _ _ _ => rfl
  objs := fun l o h => ⟨o, h, AO.le_refl o, .inr ⟨rfl, fun b _ => SameSize.of_eq rfl⟩⟩
  keys := KeysKept.of_blocks fun _ _ _ _ _ _ => rfl
  tok := fun t m h => ⟨m, h, Nat.le_refl _, fun _ => ⟨rfl, SameSize.of_eq rfl⟩⟩
theorem Ext.trans {A B C : Env} (x : Ext A B) (y : Ext B C) : Ext A C where
  base_eq := y.base_eq.trans x.base_eq
  w0_eq := y.w0_eq.trans x.w0_eq
  safe := fun b hi h => y.safe b hi (x.safe b hi h)
  old := fun b hi h hb => x.old b hi (y.old b hi h (by rw [x.base_eq]; exact hb)) hb
  cell := fun b hi j h hj => (y.cell b hi j (x.safe b hi h) hj).trans (x.cell b hi j h hj)
  objs := fun l o h => by
    obtain ⟨o', h1, h2, h3⟩ := x.objs l o h
    obtain ⟨o2, h4, h5, h6⟩ := y.objs l o' h1
    refine ⟨o2, h4, AO.le_trans h2 h5, ?_⟩
    rcases h3 with h3 | ⟨h3, h3'⟩
    · left
      cases o <;> cases o' <;> simp [AO.moved] at h3
      cases o2 <;> simp [AO.le] at h5
      simp [AO.moved]; omega
    · rcases h6 with h6 | ⟨h6, h6'⟩
      · left
        cases o' <;> cases o2 <;> simp [AO.moved] at h6
        cases o <;> simp [AO.le] at h2
        simp [AO.moved]; omega
      · exact .inr ⟨h6.trans h3, fun b hb => (h3' b hb).trans (h6' b (h3.trans hb))⟩
  keys := fun m bm ces clk g es es2 hp h0 h2 hc => by
    obtain ⟨⟨g', es', h1, hg⟩, hp'⟩ := x.mapO h0
    obtain ⟨⟨g2, es3, h3, hg2⟩, _⟩ := y.mapO h1
    rw [h2] at h3; injection h3 with h3; injection h3 with e1 e2
    obtain rfl : g' = g := by omega
    obtain ⟨ces', k1, k2⟩ := x.keys m bm ces clk g' es es' hp h0 h1 hc
    obtain ⟨ces2, k3, k4⟩ := y.keys m bm ces' clk g' es' es2 (hp'.trans hp) h1 h2 k1
    exact ⟨ces2, k3, k4.trans k2⟩
  tok := fun t m h => by
    obtain ⟨m', h1, h2, h3⟩ := x.tok t m h
    obtain ⟨m2, h4, h5, h6⟩ := y.tok t m' h1
    refine ⟨m2, h4, Nat.le_trans h2 h5, fun e => ?_⟩
    obtain ⟨h7, h8⟩ := h3 (by omega)
    obtain ⟨h9, h10⟩ := h6 (by omega)
    exact ⟨h9.trans h7, h8.trans (h7 ▸ h10)⟩

/-- A step is done: what it gives stands for what it is said to give. -/
def Done (E : Env) (rs : Rs) (res : Result Value) : Prop := ∃ v E', res = .ok v E'.w ∧ R E' ∧ Ext E E' ∧ Rep E' rs.a v ∧ E'.O = rs.O ∧ E'.G = rs.G

theorem Done.same {E : Env} (r : R E) {ok : Prop} {a : AV} {v : Value} {res : Result Value} (h : res = .ok v E.w) (ha : Rep E a v) : Done E ⟨ok, a, E.O, E.G⟩ res :=
  ⟨v, E, h, r, Ext.refl E, ha, rfl, rfl⟩

/-! ### Rows of a location -/
theorem rowAt_of_heap {w : World} {b : Nat} {vs : List Value} {e : TypeId} {fr : Nat × Nat} (h : w.heap[b]? = some (.cells vs.toArray e fr)) : RowAt w b 0 vs := by
  intro j c hj
  rw [cell_of_row w b (0 + j) _ e fr h]
  simpa using hj

theorem R.cellsAt {E : Env} (r : R E) {l b : Nat} {cs : List AV} (h : E.O[l]? = some (.cells cs)) (hp : E.pl l = some b) :
    ∃ vs e, E.w.heap[b]? = some (.cells (List.toArray vs) e (0, 0)) ∧ RepL E cs vs ∧ ∀ u ∈ vs, u.oneCell' = true := by
  obtain ⟨b', vs, e, h1, h2, h3, h4⟩ := r.obj l _ h
  rw [hp] at h1; injection h1 with h1; subst h1
  exact ⟨vs, e, h2, h3, h4⟩

theorem R.arrAt {E : Env} (r : R E) {l b sz g : Nat} {xs : List AV} (h : E.O[l]? = some (.arr sz g xs)) (hp : E.pl l = some b) :
    0 < sz ∧ ∃ cur e vs, E.w.heap[b]? = some (.cells cur e (0, 0)) ∧ RepL E xs vs ∧ (∀ u ∈ vs, u.cells.size = sz ∧ ∀ c ∈ u.cells.toList, c.oneCell' = true) ∧ cur.toList.take (xs.length * sz) = flat vs := by
  obtain ⟨h0, h1⟩ := r.obj l _ h
  rcases h1 with ⟨h1, _⟩ | ⟨b', cur, e, vs, h1, h2, h3, h4, h5⟩
  · rw [hp] at h1; cases h1
  · rw [hp] at h1; injection h1 with h1; subst h1
    exact ⟨h0, cur, e, vs, h2, h3, h4, h5⟩

theorem flat_at {sz : Nat} : ∀ {vs : List Value} (h : ∀ u ∈ vs, u.cells.size = sz) (i : Nat), i < vs.length → ((flat vs).drop (i * sz)).take sz = (vs.getD i undef).cells.toList
  | [], _, _, hi => by simp at hi
  | u :: us, h, 0, _ => by
    have hu := h u (by simp)
    simp only [flat, List.flatMap_cons, Nat.zero_mul, List.drop_zero, List.getD_cons_zero]
    rw [List.take_append_of_le_length (by simp [hu]), List.take_of_length_le (by simp [hu])]
  | u :: us, h, i + 1, hi => by
    have hu := h u (by simp)
    have ih := flat_at (fun x (hx : x ∈ us) => h x (by simp [hx])) i (by simpa using hi)
    have e1 : (i + 1) * sz = u.cells.toList.length + i * sz := by simp [hu, Nat.add_mul]; omega
    simp only [flat, List.flatMap_cons, List.getD_cons_succ]
    rw [e1, ← List.drop_drop, List.drop_left]
    exact ih

theorem rowAt_arr {w : World} {b : Nat} {cur : Array Value} {e : TypeId} {fr : Nat × Nat} (h : w.heap[b]? = some (.cells cur e fr)) {n : Nat} {cells : List Value} (ht : cur.toList.take n = cells) : RowAt w b 0 cells := by
  intro j c hj
  rw [cell_of_row w b (0 + j) _ e fr h, ← Array.getElem?_toList]
  subst ht
  rw [List.getElem?_take] at hj
  split at hj
  · simpa using hj
  · cases hj

section
variable {P : Program}

/-! ### load -/
theorem done_load {E : Env} (r : R E) {t : TypeId} {n : Nat} {ag : Bool} (hs : szOf P t = some n) (ha : agOf P t = some ag) {x : AV} {y : Value} (hx : Rep E x y)
    (hok : (evLoad (if ag then n else 1) ag E.O E.G x).ok) : Done E (evLoad (if ag then n else 1) ag E.O E.G x) ((Instr.loadAt t y).run P E.w) := by
  have key : ∀ (b o off : Nat) (vs : List Value) (cs : List AV), y = .pointer (some ⟨b, o + off, none⟩) → RowAt E.w b o vs → RepL E cs vs → (∀ u ∈ vs, u.oneCell' = true) → off + (if ag then n else 1) ≤ cs.length →
      (Instr.loadAt t y).run P E.w = .ok (mkv ag vs off (if ag then n else 1)) E.w ∧ Rep E (rdv cs off (if ag then n else 1) ag) (mkv ag vs off (if ag then n else 1)) := by
    intro b o off vs cs hy hr hrep h1 hn
    subst hy
    refine ⟨?_, rdv_rep hrep h1 hn (by intro e; simp [e])⟩
    simp only [Instr.loadAt, Instr.sureAddr, Sem.run_bind, Sem.run_pure, Result.andThen_ok]
    exact run_loadVar_of hs ha hr (by rw [hrep.length]; exact hn)
  cases hx with
  | ref b cs h1 h2 =>
    rename_i l off
    simp only [evLoad, h1] at hok ⊢
    obtain ⟨vs, e, h3, h4, h5⟩ := r.cellsAt h1 h2
    obtain ⟨k1, k2⟩ := key b 0 off vs cs (by simp) (rowAt_of_heap h3) h4 h5 hok
    exact Done.same r k1 k2
  | refB b s h1 h2 => simp only [evLoad, h1] at hok; exact hok.elim
  | fp b o h1 h2 h3 =>
    rename_i x' u off
    simp only [evLoad] at hok ⊢
    obtain ⟨c1, c2, c3⟩ := h1.cells hok.1
    obtain ⟨k1, k2⟩ := key b o off u.cells.toList x'.cells rfl h2 c2 c3 hok.2
    exact Done.same r k1 k2
  | er h h1 =>
    rename_i l g i off
    obtain ⟨sz, h0, xs, ho, hg, hy⟩ := h
    simp only [evLoad, ho] at hok ⊢
    obtain ⟨e1, hi, hsz, hn⟩ := hok
    obtain ⟨b, hp, rfl⟩ := hy e1.symm
    obtain ⟨hz0, cur, e, vs, k1, k2, k3, k4⟩ := r.arrAt ho hp
    have hrow := rowAt_arr k1 k4
    have hlen := k2.length
    have hel := k2.get i hi
    obtain ⟨c1, c2, c3⟩ := hel.cells hsz
    have hsub := hrow.sub (i * sz) sz
    rw [flat_at (fun u hu => (k3 u hu).1) i (by omega)] at hsub
    have hcl : (xs.getD i .any).cells.length = sz := by rw [← c2.length]; simpa using c1
    obtain ⟨m1, m2⟩ := key b (0 + i * sz) off _ _ (by simp) hsub c2 c3 (by omega)
    exact Done.same r m1 m2
  | _ => simp only [evLoad] at hok; exact hok.elim

/-! ### store -/
theorem run_storeAt_of {t : TypeId} {n : Nat} (hs : szOf P t = some n) {w : World} {b o : Nat} {cur : Array Value} {e : TypeId} (hb : w.heap[b]? = some (.cells cur e (0, 0))) {u : Value}
    (hn : u.cells.size = n) (h1 : ∀ c ∈ u.cells.toList, c.oneCell' = true) (hfit : o + n ≤ cur.size) :
    (Instr.storeAt t (.pointer (some ⟨b, o, none⟩)) u).run P w = .ok () (w.setRow b (cur.toList.take o ++ u.cells.toList ++ cur.toList.drop (o + n)).toArray) := by
  have h2 := run_storeCells_at (P := P) b o e u.cells.toList 0 cur w hb (by simpa [hn] using hfit) h1
  simp only [Nat.add_zero, Array.length_toList, hn] at h2
  simp [Instr.storeAt, Instr.sureAddr, storeVar, run_sizeOf_of hs, hn, h2]

theorem Turn.setRow {E : Env} {b : Nat} (cs : Array Value) : Turn E (E.w.setRow b cs) b :=
  ⟨rfl, rfl, rfl, by simp, fun k _ hne => setRow_other E.w b k cs hne⟩

theorem KeysKept.write {E : Env} (r : R E) {w' : World} {l b : Nat} {o' : AO} (hl : l < E.O.length) (hp : E.pl l = some b) (ht : Turn E w' b) (hm : ∀ g es, E.O[l]? ≠ some (.map g es)) :
    KeysKept E (E.write w' l o') := KeysKept.of_blocks fun m bm g es h1 h2 => ht.block bm (r.plOk m bm (lt_of_get h2) h1).2.1 (by
  intro e; subst e
  have := r.plInj m l bm (lt_of_get h2) hl h1 hp
  subst this
  exact hm g es h2)

theorem SameSize.setRow {w : World} {b : Nat} {cur cur' : Array Value} {e : TypeId} (hb : w.heap[b]? = some (.cells cur e (0, 0))) (hs : cur'.size = cur.size) : SameSize w (w.setRow b cur') b := by
  intro c e' hc
  rw [hb] at hc; injection hc with hc; injection hc with e1 e2
  subst e1; subst e2
  exact ⟨cur', setRow_heap w b _ cur' _ (0, 0) hb, hs⟩

theorem splice_rep {E : Env} : ∀ {ys : List AV} {us : List Value} (h : RepL E ys us) {cs : List AV} {vs : List Value} (hc : RepL E cs vs) (off : Nat), off + ys.length ≤ cs.length →
    RepL E (splice cs off ys) (vs.take off ++ us ++ vs.drop (off + us.length))
  | _, _, .nil, cs, vs, hc, off, hle => by simpa [splice] using hc
  | _, _, .cons (a := y) (u := u) (as := ys) (us := us) h hs, cs, vs, hc, off, hle => by
    have hl := hc.length
    simp only [List.length_cons] at hle
    have ih := splice_rep hs (hc.set off h) (off + 1) (by simp; omega)
    have h3 : off < vs.length := by omega
    have e1 : (vs.set off u).take (off + 1) = vs.take off ++ [u] := by
      rw [List.take_add_one, List.getElem?_set_self h3, List.take_set_of_le (Nat.le_refl _)]; rfl
    have e2 : (vs.set off u).drop (off + 1 + us.length) = vs.drop (off + (us.length + 1)) := by
      rw [List.drop_set_of_lt (by omega)]; congr 1; omega
    rw [e1, e2] at ih
    simpa [splice, List.append_assoc] using ih
theorem length_splice : ∀ (ys : List AV) (cs : List AV) (off : Nat), (splice cs off ys).length = cs.length
  | [], _, _ => rfl
  | _ :: ys, cs, off => by simp [splice, length_splice ys]

theorem patch_take {α : Type} (L xs : List α) (o m : Nat) (h : o + xs.length ≤ m) (h2 : m ≤ L.length) :
    (L.take o ++ xs ++ L.drop (o + xs.length)).take m = (L.take m).take o ++ xs ++ (L.take m).drop (o + xs.length) := by
  apply List.ext_getElem?
  intro i
  grind
theorem patch_in {α : Type} (L xs : List α) (a off sz : Nat) (h : off + xs.length ≤ sz) :
    L.take a ++ (((L.drop a).take sz).take off ++ xs ++ ((L.drop a).take sz).drop (off + xs.length)) ++ L.drop (a + sz) = L.take (a + off) ++ xs ++ L.drop (a + off + xs.length) := by
  rw [List.take_take, Nat.min_eq_left (by omega), List.take_add, List.drop_take, List.drop_drop]
  have e : L.drop (a + off + xs.length) = (L.drop (a + (off + xs.length))).take (sz - (off + xs.length)) ++ L.drop (a + sz) := by
    conv => lhs; rw [show a + off + xs.length = a + (off + xs.length) from by omega, ← List.take_append_drop (sz - (off + xs.length)) (L.drop (a + (off + xs.length)))]
    rw [List.drop_drop]
    congr 2
    omega
  rw [e]
  simp [List.append_assoc]

theorem flat_set {sz : Nat} : ∀ {vs : List Value} (h : ∀ u ∈ vs, u.cells.size = sz) (i : Nat) (u' : Value), i < vs.length →
    flat (vs.set i u') = (flat vs).take (i * sz) ++ u'.cells.toList ++ (flat vs).drop (i * sz + sz)
  | [], _, _, _, hi => by simp at hi
  | u :: us, h, 0, u', _ => by
    have hu := h u (by simp)
    simp only [flat, List.set_cons_zero, List.flatMap_cons, Nat.zero_mul, List.take_zero, List.nil_append, Nat.zero_add]
    rw [show sz = u.cells.toList.length from by simp [hu], List.drop_left]
  | u :: us, h, i + 1, u', hi => by
    have hu := h u (by simp)
    have ih := flat_set (fun x (hx : x ∈ us) => h x (by simp [hx])) i u' (by simpa using hi)
    have e1 : (i + 1) * sz = u.cells.toList.length + i * sz := by simp [hu, Nat.add_mul]; omega
    simp only [flat, List.set_cons_succ, List.flatMap_cons] at ih ⊢
    rw [ih, e1, List.take_length_add_append, Nat.add_assoc, List.drop_length_add_append]
    simp [List.append_assoc]

/-- An element whose cells are partly written anew. -/
theorem setc_rep {E : Env} {a : AV} {v : Value} {sz off : Nat} {ys : List AV} {us : List Value} (ha : Rep E a v) (hs : szOK sz a = true) (hy : RepL E ys us) (h1 : ∀ u ∈ us, u.oneCell' = true)
    (hle : off + ys.length ≤ sz) : ∃ v', Rep E (setc a off ys) v' ∧ v'.cells.toList = v.cells.toList.take off ++ us ++ v.cells.toList.drop (off + us.length) ∧ v'.cells.size = sz ∧ ∀ c ∈ v'.cells.toList, c.oneCell' = true := by
  obtain ⟨c1, c2, c3⟩ := ha.cells hs
  have hyl := hy.length
  have hone : ∀ c ∈ v.cells.toList.take off ++ us ++ v.cells.toList.drop (off + us.length), c.oneCell' = true := by
    intro c hc
    simp only [List.mem_append] at hc
    rcases hc with (hc | hc) | hc
    · exact c3 c (List.mem_of_mem_take hc)
    · exact h1 c hc
    · exact c3 c (List.mem_of_mem_drop hc)
  have hlen : (v.cells.toList.take off ++ us ++ v.cells.toList.drop (off + us.length)).length = sz := by
    simp only [List.length_append, List.length_take, List.length_drop, Array.length_toList]; omega
  by_cases hag : ∃ cs, a = .agg cs
  · obtain ⟨cs, rfl⟩ := hag
    have hl2 : cs.length = sz := by simpa [szOK] using hs
    have hsp := splice_rep hy c2 off (by simp [AV.cells, hl2]; exact hle)
    exact ⟨.agg (v.cells.toList.take off ++ us ++ v.cells.toList.drop (off + us.length)).toArray, .agg hsp hone, by simp [Value.cells], by simpa [Value.cells] using hlen, by simpa [Value.cells] using hone⟩
  · have hsz : sz = 1 := by cases a <;> simp_all [szOK]
    subst hsz
    cases hy with
    | nil =>
      have this : setc a off [] = .any := by cases off <;> cases a <;> first | exact absurd ⟨_, rfl⟩ hag | rfl
      exact ⟨v, by rw [this]; exact .any v, by simp, c1, c3⟩
    | @cons y u ys us hy hys =>
      simp only [List.length_cons] at hle
      obtain rfl : off = 0 := by omega
      have : ys = [] := List.eq_nil_of_length_eq_zero (by omega)
      subst this
      cases hys
      have hu : u.oneCell' = true := h1 u (by simp)
      have huc : u.cells = #[u] := by cases u <;> simp_all [Value.cells, Value.oneCell']
      refine ⟨u, ?_, ?_, by simp [huc], by simpa [huc] using hu⟩
      · have : setc a 0 [y] = y := by cases a <;> first | rfl | (exfalso; exact hag ⟨_, rfl⟩)
        rw [this]; exact hy
      · have : v.cells.toList.drop (0 + 1) = [] := List.drop_eq_nil_of_le (by simp [c1])
        simp [huc, this]

theorem done_store {E : Env} (r : R E) {t : TypeId} {n : Nat} (hs : szOf P t = some n) {x a : AV} {u y : Value} (hx : Rep E x u) (ha : Rep E a y)
    (hok : (evStore n E.O E.G x a).ok) : Done E (evStore n E.O E.G x a) (match (Instr.storeAt t y u).run P E.w with | .ok _ w' => .ok undef w' | .halt h w' => .halt h w') := by
  cases ha with
  | ref b cs h1 h2 =>
    rename_i l off
    simp only [evStore, h1] at hok ⊢
    obtain ⟨hsz, hle⟩ := hok
    obtain ⟨vs, e, h3, h4, h5⟩ := r.cellsAt h1 h2
    obtain ⟨c1, c2, c3⟩ := hx.cells hsz
    have hl := h4.length
    have hcl : x.cells.length = n := by rw [← c2.length]; simpa using c1
    rw [run_storeAt_of hs h3 c1 c3 (by simp; omega)]
    have hsp := splice_rep c2 h4 off (by omega)
    simp only [Array.length_toList, c1] at hsp
    have ht := Turn.setRow (E := E) (b := b) (vs.take off ++ u.cells.toList ++ vs.drop (off + n)).toArray
    have hss : SameSize E.w (E.w.setRow b (vs.take off ++ u.cells.toList ++ vs.drop (off + n)).toArray) b := SameSize.setRow h3 (by simp [c1]; omega)
    have hk := KeysKept.write (o' := .cells (splice cs off x.cells)) r (lt_of_get h1) h2 ht (by intro g es e; rw [h1] at e; cases e)
    have xx := Env.write_ext (o' := .cells (splice cs off x.cells)) r h1 h2 ht trivial hss hk
    refine ⟨undef, E.write _ l (.cells (splice cs off x.cells)), by simp [Env.write], ?_, xx, .any _, rfl, rfl⟩
    refine Env.write_R r h1 h2 ht trivial hss hk ⟨b, vs.take off ++ u.cells.toList ++ vs.drop (off + n), e, h2, setRow_heap E.w b _ _ e (0, 0) h3, hsp.mono xx, ?_⟩
    intro c hc
    simp only [List.mem_append] at hc
    rcases hc with (hc | hc) | hc
    · exact h5 c (List.mem_of_mem_take hc)
    · exact c3 c hc
    · exact h5 c (List.mem_of_mem_drop hc)
  | refB b s h1 h2 => simp only [evStore, h1] at hok; exact hok.elim
  | er h h1 =>
    rename_i l g i off
    obtain ⟨sz, h0, xs, ho, hg, hy⟩ := h
    simp only [evStore, ho] at hok ⊢
    obtain ⟨hsz, e1, hi, hel, hle⟩ := hok
    subst e1
    obtain ⟨b, hp, rfl⟩ := hy rfl
    obtain ⟨hz0, cur, e, vs, k1, k2, k3, k4⟩ := r.arrAt ho hp
    obtain ⟨c1, c2, c3⟩ := hx.cells hsz
    have hcl : x.cells.length = n := by rw [← c2.length]; simpa using c1
    have hlen := k2.length
    have hsizes : ∀ v ∈ vs, v.cells.size = sz := fun v hv => (k3 v hv).1
    have hfl := length_flat hsizes
    have hcur : xs.length * sz ≤ cur.size := by
      have := congrArg List.length k4
      simp only [List.length_take, Array.length_toList, hfl, hlen] at this
      omega
    have hmul : i * sz + sz ≤ xs.length * sz := by rw [← Nat.succ_mul]; exact Nat.mul_le_mul_right sz hi
    rw [run_storeAt_of hs k1 c1 c3 (by omega)]
    have hvi := k2.get i hi
    obtain ⟨v', m1, m2, m3, m4⟩ := setc_rep (off := off) hvi hel c2 c3 (by omega)
    generalize hnew : (cur.toList.take (i * sz + off) ++ u.cells.toList ++ cur.toList.drop (i * sz + off + n)).toArray = new
    have ht := Turn.setRow (E := E) (b := b) new
    have hnsz : new.size = cur.size := by subst hnew; simp [c1]; omega
    have hss : SameSize E.w (E.w.setRow b new) b := SameSize.setRow k1 hnsz
    have hk := KeysKept.write (o' := .arr sz h0 (xs.set i (setc (xs.getD i .any) off x.cells))) r (lt_of_get ho) hp ht (by intro g es e; rw [ho] at e; cases e)
    have hle2 : AO.le (.arr sz h0 xs) (.arr sz h0 (xs.set i (setc (xs.getD i .any) off x.cells))) := ⟨rfl, Nat.le_refl _⟩
    have xx := Env.write_ext (o' := .arr sz h0 (xs.set i (setc (xs.getD i .any) off x.cells))) r ho hp ht hle2 hss hk
    refine ⟨undef, E.write _ l (.arr sz h0 (xs.set i (setc (xs.getD i .any) off x.cells))), by simp [Env.write], ?_, xx, .any _, rfl, rfl⟩
    refine Env.write_R r ho hp ht hle2 hss hk ⟨hz0, .inr ⟨b, new, e, vs.set i v', hp, setRow_heap E.w b _ _ e (0, 0) k1, (k2.set i m1).mono xx, ?_, ?_⟩⟩
    · intro c hc
      rcases List.mem_or_eq_of_mem_set hc with hc | rfl
      · exact k3 c hc
      · exact ⟨m3, m4⟩
    · have hu : u.cells.toList.length = n := by simpa using c1
      subst hnew
      rw [List.length_set, List.toList_toArray, ← hu, patch_take _ _ _ _ (by omega) (by simpa using hcur), k4]
      rw [flat_set hsizes i v' (by omega), m2, ← flat_at hsizes i (by omega)]
      rw [patch_in _ _ _ _ _ (by omega)]
  | _ => simp only [evStore] at hok; exact hok.elim
end
end Go.VL
