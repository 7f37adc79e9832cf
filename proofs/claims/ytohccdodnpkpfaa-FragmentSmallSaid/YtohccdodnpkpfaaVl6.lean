/- Value logic, part 6: the model's operations on what stands for abstract values. -/
import Derived.Test.YtohccdodnpkpfaaVl5
set_option linter.unusedVariables false
set_option linter.unusedSimpArgs false
namespace Go.VL
open Go.RowKit

/-! ### Slots and operands -/
def RT (E : Env) (T : Tmps) (tm : Array Value) : Prop := ∀ n, Rep E (get T n) (tm.getD n undef)

theorem RT.mono {E E' : Env} (x : Ext E E') {T : Tmps} {tm : Array Value} (h : RT E T tm) : RT E' T tm := fun n => (h n).mono x

theorem getD_set_eq {tm : Array Value} {d : Nat} {v : Value} (h : d < tm.size) : (tm.setIfInBounds d v).getD d undef = v := by
  simp [Array.getD, h]
theorem getD_set_ne {tm : Array Value} {d n : Nat} {v : Value} (h : d ≠ n) : (tm.setIfInBounds d v).getD n undef = tm.getD n undef := by
  simp only [Array.getD_eq_getD_getElem?, Array.getElem?_setIfInBounds_ne h]

theorem RT.set {E : Env} {T : Tmps} {tm : Array Value} (h : RT E T tm) {d : Nat} {a : AV} {v : Value} (hd : d < tm.size) (ha : Rep E a v) : RT E ((d, a) :: T) (tm.setIfInBounds d v) := by
  intro n
  simp only [get]
  split
  · rename_i e; subst e; rw [getD_set_eq hd]; exact ha
  · rename_i e; rw [getD_set_ne (fun e' => e e'.symm)]; exact h n
theorem RT.over {E : Env} {T : Tmps} {tm : Array Value} (h : RT E T tm) {d : Nat} {a : AV} (ha : Rep E a (tm.getD d undef)) : RT E ((d, a) :: T) tm := by
  intro n
  simp only [get]
  split
  · rename_i e; subst e; exact ha
  · exact h n

theorem ofC1_rep {v : Value} {a : AV} (h : ofC1 v = some a) (E : Env) : Rep E a v := by
  unfold ofC1 at h
  split at h <;> simp at h
  · subst h; exact .slE none 0 (fun _ => rfl) (fun k => by simp)
  · subst h; exact .v _
theorem ofC1_one {v : Value} {a : AV} (h : ofC1 v = some a) : v.oneCell' = true ∧ a.isOne = true := by
  unfold ofC1 at h
  split at h <;> simp at h
  · subst h; simp [AV.isOne, Value.oneCell']
  · subst h
    rename_i h1 h2 h3 h4
    refine ⟨?_, ?_⟩
    · cases v <;> simp_all [Value.oneCell']
    · cases v <;> simp_all [AV.isOne, Value.oneCell']
theorem ofCL_rep {E : Env} : ∀ {vs : List Value} {as : List AV}, ofCL vs = some as → RepL E as vs ∧ (∀ u ∈ vs, u.oneCell' = true) ∧ ∀ a ∈ as, a.isOne = true
  | [], as, h => by simp [ofCL] at h; subst h; exact ⟨.nil, by simp, by simp⟩
  | v :: vs, as, h => by
    simp only [ofCL] at h
    split at h
    · rename_i a as' h1 h2
      simp at h; subst h
      obtain ⟨i1, i2, i3⟩ := ofCL_rep (E := E) h2
      obtain ⟨j1, j2⟩ := ofC1_one h1
      exact ⟨.cons (ofC1_rep h1 E) i1, by simpa using ⟨j1, i2⟩, by simpa using ⟨j2, i3⟩⟩
    · simp at h
theorem ofC_rep {v : Value} {a : AV} (h : ofC v = some a) (E : Env) : Rep E a v := by
  unfold ofC at h
  split at h
  · rename_i cs
    simp at h
    obtain ⟨as, h1, rfl⟩ := h
    obtain ⟨i1, i2, i3⟩ := ofCL_rep (E := E) h1
    have := Rep.agg i1 i2
    simpa using this
  · exact ofC1_rep h E

theorem trOD_rep {x : Operand} {y : OD} (h : trOD x = some y) {E : Env} {T : Tmps} {a : Act} (ht : RT E T a.tmps) : Rep E (y.ev T) (a.eval x) := by
  unfold trOD at h
  split at h <;> simp at h
  · subst h; exact ht _
  · obtain ⟨b, h1, rfl⟩ := h; exact ofC_rep h1 E
  · subst h; exact .fn .nil .nil
theorem trODs_rep : ∀ {xs : List Operand} {ys : List OD}, trODs xs = some ys → ∀ {E : Env} {T : Tmps} {a : Act}, RT E T a.tmps → RepL E (ys.map (OD.ev T)) (xs.map a.eval)
  | [], ys, h, E, T, a, _ => by simp [trODs] at h; subst h; exact .nil
  | x :: xs, ys, h, E, T, a, ht => by
    simp only [trODs] at h
    split at h
    · rename_i y ys' h1 h2
      simp at h; subst h
      exact .cons (trOD_rep h1 ht) (trODs_rep h2 ht)
    · simp at h

/-! ### Lists of values -/
theorem RepL.get {E : Env} : ∀ {as : List AV} {vs : List Value} (h : RepL E as vs) (i : Nat), i < as.length → Rep E (as.getD i .any) (vs.getD i undef)
  | _, _, .nil, _, hi => by simp at hi
  | _, _, .cons h _, 0, _ => by simpa using h
  | _, _, .cons _ h, i + 1, hi => by simpa using RepL.get h i (by simpa using hi)
theorem RepL.getElem? {E : Env} {as : List AV} {vs : List Value} (h : RepL E as vs) {i : Nat} {v : Value} (hv : vs[i]? = some v) : Rep E (as.getD i .any) v := by
  have hi : i < vs.length := lt_of_get hv
  have := h.get i (by rw [← h.length]; exact hi)
  rwa [List.getD_eq_getElem?_getD, List.getD_eq_getElem?_getD, hv, Option.getD_some, ← List.getD_eq_getElem?_getD] at this
theorem RepL.take {E : Env} : ∀ {as : List AV} {vs : List Value} (h : RepL E as vs) (n : Nat), RepL E (as.take n) (vs.take n)
  | _, _, .nil, n => by simp; exact .nil
  | _, _, .cons h hs, 0 => by simp; exact .nil
  | _, _, .cons h hs, n + 1 => by simpa using .cons h (hs.take n)
theorem RepL.drop {E : Env} : ∀ {as : List AV} {vs : List Value} (h : RepL E as vs) (n : Nat), RepL E (as.drop n) (vs.drop n)
  | _, _, .nil, n => by simp; exact .nil
  | _, _, .cons h hs, 0 => by simpa using .cons h hs
  | _, _, .cons h hs, n + 1 => by simpa using hs.drop n
theorem RepL.append {E : Env} : ∀ {as bs : List AV} {vs us : List Value}, RepL E as vs → RepL E bs us → RepL E (as ++ bs) (vs ++ us)
  | _, _, _, _, .nil, h => h
  | _, _, _, _, .cons h hs, h' => .cons h (hs.append h')
theorem RepL.set {E : Env} : ∀ {as : List AV} {vs : List Value} (h : RepL E as vs) (i : Nat) {a : AV} {v : Value}, Rep E a v → RepL E (as.set i a) (vs.set i v)
  | _, _, .nil, i, _, _, _ => by simp; exact .nil
  | _, _, .cons h hs, 0, _, _, ha => .cons ha hs
  | _, _, .cons h hs, i + 1, _, _, ha => .cons h (hs.set i ha)
theorem RepL.replicate {E : Env} {a : AV} {v : Value} (h : Rep E a v) : ∀ n, RepL E (List.replicate n a) (List.replicate n v)
  | 0 => .nil
  | n + 1 => by simpa [List.replicate_succ] using .cons h (RepL.replicate h n)

/-- How many cells a value has. -/
theorem Rep.cells {E : Env} {a : AV} {v : Value} {s : Nat} (h : Rep E a v) (hs : szOK s a = true) : v.cells.size = s ∧ RepL E a.cells v.cells.toList ∧ ∀ c ∈ v.cells.toList, c.oneCell' = true := by
  cases h with
  | any => simp [szOK, AV.isOne] at hs
  | v x =>
    simp [szOK, AV.isOne] at hs
    have hc : v.cells = #[v] := by cases v <;> simp_all [Value.cells, Value.oneCell']
    rw [hc]
    exact ⟨by simp [hs.2], .cons (.v v) .nil, by simpa using hs.1⟩
  | @agg cs vs h1 h2 =>
    simp [szOK] at hs
    refine ⟨by simp [Value.cells, h1.length, hs], by simpa [AV.cells, Value.cells] using h1, by simpa [Value.cells] using h2⟩
  | tup => simp [szOK, AV.isOne] at hs
  | slE a cap h1 h2 => simp [szOK, AV.isOne] at hs; exact ⟨by simp [Value.cells, hs], .cons (.slE a cap h1 h2) .nil, by simp [Value.cells, Value.oneCell']⟩
  | sl b o cap sz h0 h1 h2 h3 h4 h5 h6 h7 => simp [szOK, AV.isOne] at hs; exact ⟨by simp [Value.cells, hs], .cons (.sl b o cap sz h0 h1 h2 h3 h4 h5 h6 h7) .nil, by simp [Value.cells, Value.oneCell']⟩
  | fp b o h1 h2 h3 => simp [szOK, AV.isOne] at hs; exact ⟨by simp [Value.cells, hs], .cons (.fp b o h1 h2 h3) .nil, by simp [Value.cells, Value.oneCell']⟩
  | lsl h1 h2 =>
    simp [szOK, AV.isOne] at hs
    have hc : v.cells = #[v] := by cases v <;> simp_all [Value.cells, Value.oneCell']
    rw [hc]; exact ⟨by simp [hs], .cons (.lsl h1 h2) .nil, by simpa using h2⟩
  | ref b cs h1 h2 => simp [szOK, AV.isOne] at hs; exact ⟨by simp [Value.cells, hs], .cons (.ref b cs h1 h2) .nil, by simp [Value.cells, Value.oneCell']⟩
  | refB b cs h1 h2 => simp [szOK, AV.isOne] at hs; exact ⟨by simp [Value.cells, hs], .cons (.refB b cs h1 h2) .nil, by simp [Value.cells, Value.oneCell']⟩
  | er h1 h2 =>
    simp [szOK, AV.isOne] at hs
    have hc : v.cells = #[v] := by cases v <;> simp_all [Value.cells, Value.oneCell']
    rw [hc]; exact ⟨by simp [hs], .cons (.er h1 h2) .nil, by simpa using h2⟩
  | lm b g es h1 h2 => simp [szOK, AV.isOne] at hs; exact ⟨by simp [Value.cells, hs], .cons (.lm b g es h1 h2) .nil, by simp [Value.cells, Value.oneCell']⟩
  | itS b s p h1 h2 => simp [szOK, AV.isOne] at hs; exact ⟨by simp [Value.cells, hs], .cons (.itS b s p h1 h2) .nil, by simp [Value.cells, Value.oneCell']⟩
  | itM b m g ks h1 h2 => simp [szOK, AV.isOne] at hs; exact ⟨by simp [Value.cells, hs], .cons (.itM b m g ks h1 h2) .nil, by simp [Value.cells, Value.oneCell']⟩
  | stm h1 h2 =>
    simp [szOK, AV.isOne] at hs
    have hc : v.cells = #[v] := by cases v <;> simp_all [Value.cells, Value.oneCell']
    rw [hc]; exact ⟨by simp [hs], .cons (.stm h1 h2) .nil, by simpa using h2⟩
  | fn h1 h2 => simp [szOK, AV.isOne] at hs; exact ⟨by simp [Value.cells, hs], .cons (.fn h1 h2) .nil, by simp [Value.cells, Value.oneCell']⟩
  | ifc h1 => simp [szOK, AV.isOne] at hs; exact ⟨by simp [Value.cells, hs], .cons (.ifc h1) .nil, by simp [Value.cells, Value.oneCell']⟩

/-- A value out of its cells. -/
def mkv (ag : Bool) (vs : List Value) (off n : Nat) : Value := if ag then .agg ((vs.drop off).take n).toArray else vs.getD off undef

theorem rdv_rep {E : Env} {cs : List AV} {vs : List Value} (h : RepL E cs vs) (h1 : ∀ u ∈ vs, u.oneCell' = true) {off n : Nat} {ag : Bool} (hn : off + n ≤ cs.length) (hag : ag = false → n = 1) :
    Rep E (rdv cs off n ag) (mkv ag vs off n) := by
  unfold rdv mkv
  cases ag
  · have := hag rfl
    simpa using h.get off (by omega)
  · simp only [if_true]
    exact .agg ((h.drop off).take n) fun u hu => h1 u (List.mem_of_mem_drop (List.mem_of_mem_take hu))

/-! ### Memory -/
theorem add_lit0 (b o j : Nat) : (⟨b, o, none⟩ : Addr).add j = ⟨b, o + j, none⟩ := by unfold Addr.add; split <;> simp_all

theorem RowAt.sub {w : World} {b o : Nat} {vs : List Value} (h : RowAt w b o vs) (off n : Nat) : RowAt w b (o + off) ((vs.drop off).take n) := by
  intro j c hj
  rw [List.getElem?_take] at hj
  split at hj
  · rw [List.getElem?_drop] at hj
    have := h (off + j) c hj
    rwa [← Nat.add_assoc] at this
  · cases hj

section
variable {P : Program}
theorem run_isAgg_of {t : TypeId} {ag : Bool} (h : agOf P t = some ag) (w : World) : (isAgg t).run P w = .ok ag w := by
  unfold agOf at h
  unfold isAgg
  split at h <;> simp at h
  · rename_i d hd; subst h; simp [run_underlying hd]
  · rename_i d hd; subst h; simp [run_underlying hd]
  · rename_i d h1 h2 hd
    subst h
    simp only [Sem.run_bind, run_underlying hd, Result.andThen_ok]
    rfl

theorem run_sizeOf_of {t : TypeId} {n : Nat} (h : szOf P t = some n) (w : World) : (sizeOf t).run P w = .ok n w := by
  unfold szOf at h
  simp at h
  obtain ⟨i, h1, rfl⟩ := h
  simp [sizeOf, typeInfo, h1]

theorem run_loadVar_of {t : TypeId} {n : Nat} {ag : Bool} (hs : szOf P t = some n) (ha : agOf P t = some ag) {w : World} {b o off : Nat} {vs : List Value} (hr : RowAt w b o vs)
    (hn : off + (if ag then n else 1) ≤ vs.length) : (loadVar t ⟨b, o + off, none⟩).run P w = .ok (mkv ag vs off (if ag then n else 1)) w := by
  unfold loadVar
  cases ag
  · simp only [Sem.run_bind, run_isAgg_of ha, Result.andThen_ok]
    simp only [Bool.false_eq_true, if_false] at hn ⊢
    have hc : vs[off]? = some (vs.getD off undef) := by
      rw [List.getD_eq_getElem?_getD, List.getElem?_eq_getElem (by omega)]; rfl
    have := hr off _ hc
    simp [run_load, this, mkv]
  · simp only [Sem.run_bind, run_isAgg_of ha, Result.andThen_ok, if_true]
    have hsub := hr.sub off n
    have hl : ((vs.drop off).take n).length = n := by simp at hn ⊢; omega
    have := run_loadCells_list (P := P) (w := w) ⟨b, o + off, none⟩ ((vs.drop off).take n) (fun j v hv => by rw [add_lit0]; exact hsub j v hv)
    rw [hl] at this
    simp [run_sizeOf_of hs, this, mkv]
end
end Go.VL
