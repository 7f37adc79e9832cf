/- Value logic, part 8: more operations: what makes memory, arithmetic, addresses, slices. -/
import Derived.Test.YtohccdodnpkpfaaVl7
set_option linter.unusedVariables false
set_option linter.unusedSimpArgs false
namespace Go.VL
open Go.RowKit

/-! ### New memory that is frozen -/
/-- A new block of cells that nobody writes. -/
theorem Done.frozen {E : Env} (r : R E) {ok : Prop} {a : AV} {v : Value} {ob : Obj} {res : Result Value} (h : res = .ok v (E.w.alloc ob))
    (ha : Rep (E.grow (E.w.alloc ob)) a v) : Done E ⟨ok, a, E.O, E.G⟩ res := by
  have hb : Below E.w.heap.size E.w (E.w.alloc ob) := (Below.refl _ _).alloc (Nat.le_refl _) ob
  exact ⟨v, E.grow _, h, Env.grow_R r hb, Env.grow_ext r hb, ha, rfl, rfl⟩

/-! ### New locations -/
theorem Done.newloc {E : Env} (r : R E) {ok : Prop} {a : AV} {v : Value} {o : AO} {ob : Obj} {res : Result Value} (h : res = .ok v (E.w.alloc ob))
    (ho : ObjAt (E.newloc o ob) E.O.length o) (ha : Rep (E.newloc o ob) a v) : Done E ⟨ok, a, E.O ++ [o], E.G⟩ res :=
  ⟨v, E.newloc o ob, h, Env.newloc_R r o ob ho, Env.newloc_ext r o ob, ha, rfl, rfl⟩

theorem newloc_cells {E : Env} (r : R E) {cs : List AV} {vs : List Value} (e : TypeId) (h : RepL E cs vs) (h1 : ∀ u ∈ vs, u.oneCell' = true) :
    ObjAt (E.newloc (.cells cs) (.cells (List.toArray vs) e)) E.O.length (.cells cs) ∧ Rep (E.newloc (.cells cs) (.cells (List.toArray vs) e)) (.ref E.O.length 0) (.pointer (some ⟨E.w.heap.size, 0, none⟩)) := by
  have x := Env.newloc_ext r (.cells cs) (.cells (List.toArray vs) e)
  have hp : (E.newloc (.cells cs) (.cells (List.toArray vs) e)).pl E.O.length = some E.w.heap.size := updN_same _ _ _
  exact ⟨⟨_, vs, e, hp, heap_alloc_new _ _, h.mono x, h1⟩, .ref _ cs getElem?_snoc_self hp⟩

section
variable {P : Program}
theorem run_zeroValue_of {t : TypeId} {i : TypeInfo} {z : Value} (hi : P.info? t = some i) (hz : i.zero = some z) (w : World) : (zeroValue t).run P w = .ok z w := by
  simp [zeroValue, typeInfo, hi, hz]

theorem zeroOf_some {t : TypeId} {a : AV} (h : zeroOf P t = some a) : ∃ i z, P.info? t = some i ∧ i.zero = some z ∧ ofC z = some a := by
  unfold zeroOf at h
  simp only [Option.bind_eq_some_iff] at h
  obtain ⟨z, ⟨i, h1, h2⟩, h3⟩ := h
  exact ⟨i, z, h1, h2, h3⟩

theorem ofC_cells {E : Env} {z : Value} {a : AV} (h : ofC z = some a) : RepL E a.cells z.cells.toList ∧ ∀ u ∈ z.cells.toList, u.oneCell' = true := by
  unfold ofC at h
  split at h
  · rename_i cs
    simp at h
    obtain ⟨as, h1, rfl⟩ := h
    obtain ⟨i1, i2, i3⟩ := ofCL_rep (E := E) h1
    exact ⟨by simpa [AV.cells, Value.cells] using i1, by simpa [Value.cells] using i2⟩
  · rename_i hne
    have hr := ofC1_rep h E
    obtain ⟨j1, j2⟩ := ofC1_one h
    have hzc : z.cells = #[z] := by cases z <;> simp_all [Value.cells, Value.oneCell']
    have hac : a.cells = [a] := by cases a <;> simp_all [AV.cells, AV.isOne]
    rw [hzc, hac]
    exact ⟨.cons hr .nil, by simpa using j1⟩

theorem done_alloc {E : Env} (r : R E) {t : TypeId} {z : AV} (hz : zeroOf P t = some z) :
    Done E ⟨True, .ref E.O.length 0, E.O ++ [.cells z.cells], E.G⟩ ((Instr.alloc t true (.tuple #[])).run P E.w) := by
  obtain ⟨i, zv, h1, h2, h3⟩ := zeroOf_some hz
  obtain ⟨c1, c2⟩ := ofC_cells (E := E) h3
  obtain ⟨k1, k2⟩ := newloc_cells r t c1 c2
  refine Done.newloc r ?_ k1 k2
  simp [Instr.alloc, run_zeroValue_of h1 h2, newVar, newRow]

theorem done_box {E : Env} (r : R E) {t : TypeId} {n : Nat} {x : AV} {u : Value} (hx : Rep E x u) (hok : szOK n x = true) :
    Done E ⟨szOK n x = true, .ref E.O.length 0, E.O ++ [.cells x.cells], E.G⟩ ((Instr.box t u).run P E.w) := by
  obtain ⟨c1, c2, c3⟩ := hx.cells hok
  obtain ⟨k1, k2⟩ := newloc_cells r t c2 c3
  refine Done.newloc r ?_ k1 k2
  simp [Instr.box, newVar, newRow]

theorem done_newnil {E : Env} (r : R E) {sz : Nat} (h : 0 < sz) {res : Result Value} (hr : res = .ok (.slice none 0 0) E.w) : Done E ⟨0 < sz, .lsl E.O.length 0 0 0, E.O ++ [.arr sz 0 []], E.G⟩ res :=
  ⟨_, E.newnil sz, hr, Env.newnil_R r h, Env.newnil_ext r sz, .lsl ⟨sz, 0, [], getElem?_snoc_self, Nat.le_refl _, fun _ => .inl ⟨rfl, none, rfl⟩⟩ rfl, rfl, rfl⟩

theorem done_mkmap {E : Env} (r : R E) {t : TypeId} : Done E ⟨True, .lm E.O.length, E.O ++ [.map 0 []], E.G⟩ ((Instr.makeMap t none).run P E.w) := by
  have hp : (E.newloc (.map 0 []) (.map #[] 0)).pl E.O.length = some E.w.heap.size := updN_same _ _ _
  refine Done.newloc (ob := .map #[] 0) r ?_ ⟨_, #[], 0, hp, heap_alloc_new _ _, .nil, by simp, by simp, by simp⟩ (.lm _ 0 [] getElem?_snoc_self hp)
  simp [Instr.makeMap]

/-! ### Struct and array values -/
theorem shut1_rep {E : Env} {a : AV} {v : Value} (h : Rep E a v) : Rep E (shut1 a) v := by
  unfold shut1
  split
  · cases h with
    | slE a cap h1 h2 => exact absurd rfl (h2 _)
    | sl b o cap sz h0 h1 h2 h3 h4 h5 h6 h7 => exact .sl b o cap sz h0 h1 h2 h3 h4 h5 h6 trivial
  · exact h
theorem shutL_rep {E : Env} : ∀ {as : List AV} {vs : List Value}, RepL E as vs → RepL E (as.map shut1) vs
  | _, _, .nil => .nil
  | _, _, .cons h hs => .cons (shut1_rep h) (shutL_rep hs)
theorem shut_rep {E : Env} {a : AV} {v : Value} (h : Rep E a v) : Rep E (shut a) v := by
  cases a with
  | agg cs => cases h with | agg h1 h2 => exact .agg (shutL_rep h1) h2
  | _ => exact shut1_rep h
theorem shut1_one (a : AV) : (shut1 a).isOne = a.isOne := by unfold shut1; split <;> rfl
theorem shut_szOK (s : Nat) (a : AV) : szOK s (shut a) = szOK s a := by
  cases a with
  | agg cs => simp [shut, szOK]
  | sl xs t => cases t <;> rfl
  | _ => rfl

theorem fold_splice (off : Nat) : ∀ (us : List Value) (k : Nat) (cells : Array Value), ((us.zipIdx k).foldl (fun cs (p : Value × Nat) => cs.setIfInBounds (off + p.2) p.1) cells).toList = splice cells.toList (off + k) us
  | [], k, cells => rfl
  | u :: us, k, cells => by
    simp only [List.zipIdx_cons, List.foldl_cons, splice]
    rw [fold_splice off us (k + 1) (cells.setIfInBounds (off + k) u)]
    simp [Nat.add_assoc]

theorem splice_repV {E : Env} : ∀ {ys : List AV} {us : List Value} (h : RepL E ys us) {cs : List AV} {vs : List Value} (hc : RepL E cs vs) (off : Nat), RepL E (splice cs off ys) (splice vs off us)
  | _, _, .nil, cs, vs, hc, off => hc
  | _, _, .cons h hs, cs, vs, hc, off => splice_repV hs (hc.set off h) (off + 1)
theorem length_spliceV {α : Type} : ∀ (ys cs : List α) (off : Nat), (splice cs off ys).length = cs.length
  | [], _, _ => rfl
  | _ :: ys, cs, off => by simp [splice, length_spliceV ys]
theorem mem_splice {α : Type} {x : α} : ∀ {ys cs : List α} {off : Nat}, x ∈ splice cs off ys → x ∈ cs ∨ x ∈ ys
  | [], _, _, h => .inl h
  | y :: ys, cs, off, h => by
    rcases mem_splice (ys := ys) h with h | h
    · rcases List.mem_or_eq_of_mem_set h with h | h
      · exact .inl h
      · exact .inr (by simp [h])
    · exact .inr (by simp [h])

/-- Building: the parts' places and values go side by side. -/
theorem run_fill {E : Env} {place : Nat → Option (Nat × Nat)} : ∀ {parts : List (Nat × Value)} {aparts : List (Nat × Nat × AV)} {zero : List AV} {cells : Array Value},
    parts.length = aparts.length → (∀ (i : Nat) (p : Nat × Value) (q : Nat × Nat × AV), parts[i]? = some p → aparts[i]? = some q → place p.1 = some (q.1, q.2.1) ∧ Rep E q.2.2 p.2 ∧ szOK q.2.1 q.2.2 = true ∧ q.1 + q.2.1 ≤ zero.length) →
    RepL E zero cells.toList → (∀ u ∈ cells.toList, u.oneCell' = true) →
    ∃ out, Instr.fill place cells parts = some out ∧ Rep E (evBuild zero aparts) (.agg out)
  | [], [], zero, cells, _, _, hz, h1 => by
    refine ⟨cells, rfl, ?_⟩
    have := Rep.agg hz h1
    simpa [evBuild] using this
  | (i, v) :: parts, (off, sz, a) :: aparts, zero, cells, hl, hp, hz, h1 => by
    obtain ⟨e1, e2, e3, e4⟩ := hp 0 (i, v) (off, sz, a) rfl rfl
    simp only at e1 e2 e3 e4
    obtain ⟨c1, c2, c3⟩ := e2.cells e3
    have hzl : cells.size = zero.length := by simpa using hz.length
    have hfold := fold_splice off v.cells.toList 0 cells
    have hfa : v.cells.zipIdx.foldl (fun cs (p : Value × Nat) => cs.setIfInBounds (off + p.2) p.1) cells = (splice cells.toList off v.cells.toList).toArray := by
      apply Array.ext'
      rw [← Array.foldl_toList, Array.toList_zipIdx]
      simpa using hfold
    have hrest := run_fill (E := E) (place := place) (parts := parts) (aparts := aparts) (zero := splice zero off a.cells) (cells := (splice cells.toList off v.cells.toList).toArray)
      (by simpa using hl) (fun j p q hj hq => by
        have := hp (j + 1) p q hj hq
        rwa [length_spliceV]) (by simpa using splice_repV c2 hz off) (by
        intro u hu
        rcases mem_splice (by simpa using hu) with hu | hu
        · exact h1 u hu
        · exact c3 u hu)
    obtain ⟨out, k1, k2⟩ := hrest
    refine ⟨out, ?_, k2⟩
    simp only [Instr.fill, e1]
    rw [if_neg (by rw [c1]; simp; omega)]
    rw [show (v.cells.zipIdx.foldl (fun cs x => cs.setIfInBounds (off + x.2) x.1) cells) = _ from hfa]
    exact k1

/-- The values of parts. -/
theorem trParts_rep {place : Nat → Option (Nat × Nat)} : ∀ {parts : List (Nat × Operand)} {tp : List (Nat × Nat × OD)}, trParts place parts = some tp → ∀ {E : Env} {T : Tmps} {a : Act}, RT E T a.tmps →
    tp.length = parts.length ∧ ∀ (i : Nat) (p : Nat × Operand) (q : Nat × Nat × OD), parts[i]? = some p → tp[i]? = some q → place p.1 = some (q.1, q.2.1) ∧ Rep E (q.2.2.ev T) (a.eval p.2)
  | [], tp, h, E, T, a, _ => by simp [trParts] at h; subst h; simp
  | (i, x) :: parts, tp, h, E, T, a, ht => by
    simp only [trParts] at h
    split at h
    · rename_i off sz y ys h1 h2 h3
      simp at h; subst h
      obtain ⟨k1, k2⟩ := trParts_rep h3 ht
      refine ⟨by simp [k1], fun j p q hj hq => ?_⟩
      cases j with
      | zero =>
        simp at hj hq; subst hj; subst hq
        exact ⟨h1, trOD_rep h2 ht⟩
      | succ j => exact k2 j p q (by simpa using hj) (by simpa using hq)
    · simp at h

theorem done_build {E : Env} (r : R E) {t : TypeId} {parts : Array (Nat × Operand)} {zc : List AV} {tp : List (Nat × Nat × OD)} {place : Nat → Option (Nat × Nat)} {T : Tmps} {act : Act} (ht : RT E T act.tmps)
    {zcells : Array Value} (hz : ofCL zcells.toList = some zc) (hp : trParts place parts.toList = some tp)
    (hb : ∀ l out, Instr.fill place zcells l = some out → P.built t l = some out)
    (hok : ∀ p ∈ tp, szOK p.2.1 (OD.ev T p.2.2) = true ∧ p.1 + p.2.1 ≤ zc.length) {ok : Prop} :
    Done E ⟨ok, evBuild zc (tp.map fun p => (p.1, p.2.1, shut (p.2.2.ev T))), E.O, E.G⟩ ((Instr.build t (parts.map fun (i, x) => (i, act.eval x))).run P E.w) := by
  obtain ⟨k1, k2⟩ := trParts_rep hp ht
  obtain ⟨z1, z2, z3⟩ := ofCL_rep (E := E) hz
  obtain ⟨out, o1, o2⟩ := run_fill (E := E) (place := place) (parts := (parts.map fun (i, x) => (i, act.eval x)).toList) (aparts := tp.map fun p => (p.1, p.2.1, shut (p.2.2.ev T))) (zero := zc) (cells := zcells)
    (by simp [k1]) (by
      intro i p q hi hq
      simp only [Array.toList_map, List.getElem?_map, Option.map_eq_some_iff] at hi hq
      obtain ⟨p0, hi, rfl⟩ := hi
      obtain ⟨q0, hq, rfl⟩ := hq
      obtain ⟨m1, m2⟩ := k2 i p0 q0 hi hq
      obtain ⟨m3, m4⟩ := hok q0 (List.mem_of_getElem? hq)
      exact ⟨m1, shut_rep m2, by rw [shut_szOK]; exact m3, m4⟩) z1 z2
  exact Done.same r (run_build E.w t _ out (hb _ _ o1)) o2

theorem built_struct {t : TypeId} {i : TypeInfo} {z : Value} {fs : Array Field} {places : List (Nat × Nat)} (hi : P.info? t = some i) (hz : i.zero = some z) (hu : P.underlying t = some (.struct fs))
    (hp : fs.toList.mapM (fun f => (P.info? f.type).map fun i => (f.offset, i.size)) = some places) (l : List (Nat × Value)) (out : Array Value)
    (h : Instr.fill (places.toArray[·]?) z.cells l = some out) : P.built t l = some out := by
  simp [Program.built, hi, hu, hz, hp] at h ⊢
  exact h
theorem built_array {t : TypeId} {i : TypeInfo} {z : Value} {n : Nat} {e : TypeId} {ie : TypeInfo} (hi : P.info? t = some i) (hz : i.zero = some z) (hu : P.underlying t = some (.array n e))
    (he : P.info? e = some ie) (l : List (Nat × Value)) (out : Array Value)
    (h : Instr.fill (fun i => some (i * ie.size, ie.size)) z.cells l = some out) : P.built t l = some out := by
  simp [Program.built, hi, hu, hz, he] at h ⊢
  exact h

/-! ### Slices that are written out -/
theorem RepL.flat {E : Env} {sz : Nat} : ∀ {as : List AV} {vs : List Value}, RepL E as vs → (∀ a ∈ as, szOK sz a = true) → (∀ v ∈ vs, v.cells.size = sz ∧ ∀ c ∈ v.cells.toList, c.oneCell' = true)
  | _, _, .nil, _ => by simp
  | _, _, .cons h hs, ha => by
    obtain ⟨c1, c2, c3⟩ := h.cells (ha _ (by simp))
    have ih := RepL.flat hs fun a h => ha a (by simp [h])
    intro v hv
    rcases List.mem_cons.1 hv with rfl | hv
    · exact ⟨c1, c3⟩
    · exact ih v hv

theorem inOrder_some : ∀ {k : Nat} {parts : List (Nat × Operand)} {xs : List Operand}, inOrder k parts = some xs → parts = (xs.zipIdx k).map fun p => (p.2, p.1)
  | _, [], xs, h => by simp [inOrder] at h; subst h; rfl
  | k, (i, x) :: r, xs, h => by
    simp only [inOrder] at h
    split at h
    · rename_i e; subst e
      simp at h
      obtain ⟨ys, h1, rfl⟩ := h
      simp [inOrder_some h1]
    · simp at h

/-- Filling a row in order, all of it, leaves just what is filled in. -/
theorem fill_row {sz : Nat} : ∀ (vs : List Value) (k : Nat) (cells : Array Value), (∀ v ∈ vs, v.cells.size = sz) → cells.size = (k + vs.length) * sz →
    Instr.fill (fun i => some (i * sz, sz)) cells ((vs.zipIdx k).map fun p => (p.2, p.1)) = some (cells.toList.take (k * sz) ++ flat vs).toArray
  | [], k, cells, _, hc => by
    simp only [List.zipIdx_nil, List.map_nil, Instr.fill, flat, List.flatMap_nil, List.append_nil]
    rw [List.take_of_length_le (by simp at hc ⊢; omega)]
  | v :: vs, k, cells, hv, hc => by
    have h1 := hv v (by simp)
    simp only [List.length_cons] at hc
    have e1 : (k + (vs.length + 1)) * sz = k * sz + sz + vs.length * sz := by rw [Nat.add_mul, Nat.add_mul]; omega
    have hc2 := hc.trans e1
    have hfold := fold_splice (k * sz) v.cells.toList 0 cells
    have hfa : v.cells.zipIdx.foldl (fun cs (p : Value × Nat) => cs.setIfInBounds (k * sz + p.2) p.1) cells = (splice cells.toList (k * sz) v.cells.toList).toArray := by
      apply Array.ext'
      rw [← Array.foldl_toList, Array.toList_zipIdx]
      simpa using hfold
    simp only [List.zipIdx_cons, List.map_cons, Instr.fill]
    rw [if_neg (by simp [h1]; omega)]
    rw [show (v.cells.zipIdx.foldl (fun cs x => cs.setIfInBounds (k * sz + x.2) x.1) cells) = _ from hfa]
    rw [fill_row vs (k + 1) _ (fun x hx => hv x (by simp [hx])) (by simp [length_spliceV]; rw [hc]; congr 1; omega)]
    congr 2
    have hs : splice cells.toList (k * sz) v.cells.toList = cells.toList.take (k * sz) ++ v.cells.toList ++ cells.toList.drop (k * sz + v.cells.toList.length) := by
      have gen : ∀ (us cs : List Value) (o : Nat), o + us.length ≤ cs.length → splice cs o us = cs.take o ++ us ++ cs.drop (o + us.length) := by
        intro us
        induction us with
        | nil => intro cs o _; simp [splice]
        | cons u us ih =>
          intro cs o ho
          simp only [List.length_cons] at ho
          simp only [splice]
          rw [ih _ _ (by simp; omega)]
          have e1 : (cs.set o u).take (o + 1) = cs.take o ++ [u] := by
            rw [List.take_add_one, List.getElem?_set_self (by omega), List.take_set_of_le (Nat.le_refl _)]; rfl
          have e2 : (cs.set o u).drop (o + 1 + us.length) = cs.drop (o + (us.length + 1)) := by
            rw [List.drop_set_of_lt (by omega)]; congr 1; omega
          rw [e1, e2]; simp [List.append_assoc]
      exact gen _ _ _ (by simp [h1]; omega)
    rw [hs]
    simp only [List.toList_toArray, flat, List.flatMap_cons, Array.length_toList, h1]
    rw [Nat.succ_mul, List.take_append_of_le_length (by simp; omega), List.take_of_length_le (by simp; omega)]
    simp [List.append_assoc]

theorem run_buildSlice_of {t e : TypeId} {sz len : Nat} {z : Value} {i : TypeInfo} (hu : P.underlying t = some (.slice e)) (hi : P.info? e = some i) (hsz : i.size = sz) (hz : i.zero = some z) (hb : len * sz ≤ 16777216) (hp : 0 < sz)
    {vs : List Value} (hv : ∀ v ∈ vs, v.cells.size = sz) (hl : vs.length = len) (w : World) :
    (Instr.buildSlice t len ((vs.zipIdx.map fun p => (p.2, p.1)).toArray)).run P w = .ok (.slice (some ⟨w.heap.size, 0, none⟩) len len) (w.alloc (.cells (flat vs).toArray e)) := by
  subst hl
  have hso : szOf P e = some sz := by simp [szOf, hi, hsz]
  have hfill : ∀ cells : Array Value, cells.size = vs.length * sz → Instr.fill (fun i => some (i * sz, sz)) cells (vs.zipIdx.map fun p => (p.2, p.1)) = some (flat vs).toArray := by
    intro cells hc
    have := fill_row vs 0 cells hv (by simpa using hc)
    simpa using this
  unfold Instr.buildSlice
  simp only [Sem.run_bind, run_underlying hu, Result.andThen_ok, run_sizeOf_of hso]
  rw [if_neg (by omega)]
  by_cases h0 : vs.length * sz = 0
  · simp only [h0, if_true, Sem.run_pure, Result.andThen_ok, List.toList_toArray, Sem.run_bind]
    rw [hfill _ (by simp [h0])]
    simp [newRow]
  · simp only [h0, if_false, Sem.run_bind, run_zeroValue_of hi hz, Sem.run_pure, Result.andThen_ok, List.toList_toArray]
    rw [hfill _ (by simp)]
    simp [newRow]

theorem rep_new_row {E : Env} (r : R E) {as : List AV} {vs : List Value} {e : TypeId} {sz : Nat} (h : RepL E as vs) (hv : ∀ v ∈ vs, v.cells.size = sz) (hp : 0 < sz) :
    Rep (E.grow (E.w.alloc (.cells (flat vs).toArray e))) (.sl as .full) (.slice (some ⟨E.w.heap.size, 0, none⟩) as.length as.length) := by
  have hb : Below E.w.heap.size E.w (E.w.alloc (.cells (flat vs).toArray e)) := (Below.refl _ _).alloc (Nat.le_refl _) _
  have x := Env.grow_ext r hb
  by_cases h0 : as = []
  · subst h0; exact .slE _ 0 (fun _ => rfl) (fun k => by simp)
  · exact .sl _ 0 _ sz h0 (h.mono x) hv hp (rowAt_of_heap (heap_alloc_new _ _)) ⟨_, Nat.le_refl _, .inr ⟨Nat.le_refl _, by simp [Env.grow]⟩⟩ (Nat.le_refl _) rfl

theorem mapShut_rep {E : Env} : ∀ {as : List AV} {vs : List Value}, RepL E as vs → RepL E (as.map shut) vs
  | _, _, .nil => .nil
  | _, _, .cons h hs => .cons (shut_rep h) (mapShut_rep hs)

theorem done_bsl {E : Env} (r : R E) {t e : TypeId} {sz len : Nat} {z : Value} {i : TypeInfo} (hu : P.underlying t = some (.slice e)) (hi : P.info? e = some i) (hsz : i.size = sz) (hz : i.zero = some z) (hb : len * sz ≤ 16777216) (hp : 0 < sz)
    {as : List AV} {vs : List Value} (h : RepL E as vs) (hl : as.length = len) (ha : ∀ a ∈ as, szOK sz a = true) {ok : Prop} :
    Done E ⟨ok, .sl (as.map shut) .full, E.O, E.G⟩ ((Instr.buildSlice t len ((vs.zipIdx.map fun p => (p.2, p.1)).toArray)).run P E.w) := by
  have hv := h.flat ha
  have hvl : vs.length = len := h.length.trans hl
  refine Done.frozen r (run_buildSlice_of hu hi hsz hz hb hp (fun v hv' => (hv v hv').1) hvl E.w) ?_
  have := rep_new_row (e := e) r (mapShut_rep h) (fun v hv' => (hv v hv').1) hp
  simpa [hl] using this

theorem done_bslA {E : Env} (r : R E) {t e : TypeId} {sz len : Nat} {z : Value} {i : TypeInfo} (hu : P.underlying t = some (.slice e)) (hi : P.info? e = some i) (hsz : i.size = sz) (hz : i.zero = some z) (hb : len * sz ≤ 16777216) (hp : 0 < sz)
    {as : List AV} {vs : List Value} (h : RepL E as vs) (hl : as.length = len) (ha : ∀ a ∈ as, szOK sz a = true) {ok : Prop} :
    Done E ⟨ok, .lsl E.O.length 0 0 len, E.O ++ [.arr sz 0 (as.map shut)], E.G⟩ ((Instr.buildSlice t len ((vs.zipIdx.map fun p => (p.2, p.1)).toArray)).run P E.w) := by
  have hv := h.flat ha
  have hvl : vs.length = len := h.length.trans hl
  have hfl := length_flat (fun v hv' => (hv v hv').1)
  have hpl : (E.newloc (.arr sz 0 (as.map shut)) (.cells (flat vs).toArray e)).pl E.O.length = some E.w.heap.size := updN_same _ _ _
  have x := Env.newloc_ext r (.arr sz 0 (as.map shut)) (.cells (flat vs).toArray e)
  refine Done.newloc r (run_buildSlice_of hu hi hsz hz hb hp (fun v hv' => (hv v hv').1) hvl E.w) ⟨hp, .inr ⟨_, _, e, vs, hpl, heap_alloc_new _ _, (mapShut_rep h).mono x, hv, ?_⟩⟩ ?_
  · simp only [List.toList_toArray, List.length_map]
    rw [List.take_of_length_le (by rw [hfl, h.length]; exact Nat.le_refl _)]
  · refine .lsl ⟨sz, 0, as.map shut, getElem?_snoc_self, Nat.le_refl _, fun _ => .inr ⟨_, _, e, len, hpl, heap_alloc_new _ _, by simp, Nat.le_refl _, by simp [hfl, hvl]⟩⟩ rfl
end
end Go.VL
