/- Value logic, part 16: every operation that is no call. -/
import Derived.Test.YtohccdodnpkpfaaVl15
set_option linter.unusedVariables false
set_option linter.unusedSimpArgs false
namespace Go.VL
open Go.RowKit

section
variable {P : Program}

theorem szOf_info {t : TypeId} {n : Nat} (h : szOf P t = some n) : ∃ i, P.info? t = some i ∧ i.size = n := by
  unfold szOf at h
  cases hi : P.info? t with
  | none => simp [hi] at h
  | some i => simp [hi] at h; exact ⟨i, rfl, h⟩
theorem zeroOf_info {t : TypeId} {z : AV} (h : zeroOf P t = some z) : ∃ i v, P.info? t = some i ∧ i.zero = some v ∧ ofC v = some z := by
  unfold zeroOf at h
  simp only [Option.bind_eq_some_iff] at h
  obtain ⟨v, ⟨i, h1, h2⟩, h3⟩ := h
  exact ⟨i, v, h1, h2, h3⟩

theorem trOpt_rep {x : Option Operand} {y : Option OD} (h : trOpt x = some y) {E : Env} {T : Tmps} {a : Act} (ht : RT E T a.tmps) :
    (y.map (OD.ev T)).isSome = (x.map a.eval).isSome ∧ ∀ b v, y.map (OD.ev T) = some b → x.map a.eval = some v → Rep E b v := by
  cases x with
  | none => simp [trOpt] at h; subst h; exact ⟨rfl, fun b v h => by simp at h⟩
  | some x =>
    simp only [trOpt, Option.map_eq_some_iff] at h
    obtain ⟨z, h1, rfl⟩ := h
    refine ⟨rfl, fun b v hb hv => ?_⟩
    simp at hb hv
    subst hb; subst hv
    exact trOD_rep h1 ht

theorem inOrder_eq {act : Act} : ∀ {parts : List (Nat × Operand)} {k : Nat} {xs : List Operand}, inOrder k parts = some xs →
    parts.map (fun p => (p.1, act.eval p.2)) = ((xs.map act.eval).zipIdx k).map fun p => (p.2, p.1)
  | [], k, xs, h => by simp [inOrder] at h; subst h; rfl
  | (i, x) :: r, k, xs, h => by
    simp only [inOrder] at h
    split at h
    · rename_i e
      simp only [Option.map_eq_some_iff] at h
      obtain ⟨ys, h1, rfl⟩ := h
      subst e
      simp [inOrder_eq h1]
    · cases h

theorem op_mem {pol : List TypeId} {o : Oper} {op : PK} {E : Env} {T : Tmps} {a : Act} (h : At E T a) (htr : trPK P pol o = some op) (hok : (ev T E.O E.G op).ok) :
    (∃ t n p, o.op = .buildSlice t n p) ∨ (∃ t x, o.op = .load t x) ∨ (∃ t x y, o.op = .store t x y) ∨ (∃ x, o.op = .nilCheck x) ∨ (∃ f x y, o.op = .makeFunc f x y) ∨ (∃ t r, o.op = .makeMap t r) ∨ (∃ t x y, o.op = .makeSlice t x y) →
    OpRes E (ev T E.O E.G op) ((execOp a.eval o).run P E.w) := by
  rintro (⟨t, n, p, hop⟩ | ⟨t, x, hop⟩ | ⟨t, x, y, hop⟩ | ⟨x, hop⟩ | ⟨f, x, y, hop⟩ | ⟨t, x, hop⟩ | ⟨t, x, y, hop⟩)
  · simp only [trPK, hop] at htr
    split at htr
    · rename_i e hu
      split at htr
      · rename_i sz xs hs hxs
        split at htr
        · rename_i hc
          obtain ⟨hl, h0, hb, hzz⟩ := hc
          simp only [Option.bind_eq_some_iff] at hxs
          obtain ⟨ops, hin, htx⟩ := hxs
          obtain ⟨i, hi, hsz⟩ := szOf_info hs
          have hrep := trODs_rep htx h.t
          have hbld : (Instr.buildSlice t n (p.map fun (i, x) => (i, a.eval x))) = Instr.buildSlice t n ((((ops.map a.eval).zipIdx.map fun p => (p.2, p.1))).toArray) := by
            congr 1
            apply Array.toList_inj.1
            simpa using inOrder_eq (act := a) hin
          simp only [execOp, hop]
          rw [hbld]
          cases hz : i.zero with
          | none =>
            simp [hi, hz] at hzz
          | some z =>
            split at htr
            · injection htr with htr; subst htr
              simp only [ev] at hok ⊢
              have := done_bslA (P := P) h.r hu hi hsz hz hb h0 hrep (by simpa using hl) (by simpa using hok) (ok := ∀ x ∈ xs, szOK sz (OD.ev T x) = true)
              rw [List.map_map] at this
              rw [hl]
              exact OpRes.of_done this
            · injection htr with htr; subst htr
              simp only [ev] at hok ⊢
              have := done_bsl (P := P) h.r hu hi hsz hz hb h0 hrep (by simpa using hl) (by simpa using hok) (ok := ∀ x ∈ xs, szOK sz (OD.ev T x) = true)
              rw [List.map_map] at this
              exact OpRes.of_done this
        · cases htr
      · cases htr
    · cases htr
  · simp only [trPK, hop] at htr
    split at htr
    · rename_i n y hs hy
      have hr := trOD_rep hy h.t
      simp only [execOp, hop]
      split at htr
      · rename_i ha
        injection htr with htr; subst htr
        exact OpRes.of_done (by simpa [ev] using done_load (P := P) h.r hs ha hr (by simpa [ev] using hok))
      · rename_i ha
        injection htr with htr; subst htr
        exact OpRes.of_done (by simpa [ev] using done_load (P := P) h.r hs ha hr (by simpa [ev] using hok))
      · cases htr
    · cases htr
  · simp only [trPK, hop] at htr
    split at htr
    · rename_i n b c hs hb hc
      injection htr with htr; subst htr
      obtain ⟨v, E', h1, h2, h3, h4, h5, h6⟩ := done_store (P := P) h.r hs (trOD_rep hc h.t) (trOD_rep hb h.t) hok
      simp only [execOp, hop, ev]
      split at h1
      · rename_i w' hw
        injection h1 with h1 h7
        subst h1
        exact ⟨.skip, E', by simp [hw, h7], .inr ⟨rfl, h4⟩, h2, h3, h5, h6⟩
      · cases h1
    · cases htr
  · simp only [trPK, hop, Option.map_eq_some_iff] at htr
    obtain ⟨y, hy, rfl⟩ := htr
    obtain ⟨⟨p, hp⟩, h1, h2, h3⟩ := done_nilc h.r (trOD_rep hy h.t) hok
    simp only [execOp, hop, ev]
    refine ⟨.value (a.eval x), E, ?_, .inl ⟨_, rfl, h1⟩, h.r, Ext.refl E, h2.symm, h3.symm⟩
    rw [hp]; rfl
  · simp only [trPK, hop] at htr
    split at htr
    · rename_i b c hb hc
      injection htr with htr; subst htr
      simp only [execOp, hop, ev]
      have h1 := trODs_rep hb h.t
      have h2 := trODs_rep hc h.t
      refine ⟨.value (.func f (x.map a.eval) (y.map a.eval)), E, rfl, .inl ⟨_, rfl, ?_⟩, h.r, Ext.refl E, rfl, rfl⟩
      have := Rep.fn (f := f) h1 h2
      rw [show (x.toList.map a.eval).toArray = x.map a.eval from Array.toList_inj.1 (by simp), show (y.toList.map a.eval).toArray = y.map a.eval from Array.toList_inj.1 (by simp)] at this
      exact this
    · cases htr
  · simp only [trPK, hop] at htr
    split at htr
    · injection htr with htr; subst htr
      simp only [execOp, hop]
      exact OpRes.of_done (done_mkmap h.r)
    · cases htr
  · simp only [trPK, hop] at htr
    split at htr
    · rename_i e hu
      split at htr
      · rename_i n z b l c hs hz hby hl hc
        split at htr
        · rename_i hc'
          injection htr with htr; subst htr
          obtain ⟨i, hi, hsz⟩ := szOf_info hs
          obtain ⟨i', v, hi', hv, hza⟩ := zeroOf_info hz
          rw [hi] at hi'; injection hi' with hi'; subst hi'
          simp only [hi, Option.map_some] at hby
          injection hby with hby
          simp only [execOp, hop]
          exact OpRes.of_done (done_mksl h.r hu hi hsz hby hv hza hc'.2 hc'.1 (trOD_rep hl h.t) (trOD_rep hc h.t) hok)
        · cases htr
      · cases htr
    · cases htr
end
end Go.VL
