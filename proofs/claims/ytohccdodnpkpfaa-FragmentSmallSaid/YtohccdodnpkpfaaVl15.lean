/- Value logic, part 15: an operation of the model does what its translation says. -/
import Derived.Test.YtohccdodnpkpfaaVl14
set_option linter.unusedVariables false
set_option linter.unusedSimpArgs false
namespace Go.VL
open Go.RowKit

/-- An operation that is no call has been carried out. -/
def OpRes (E : Env) (rs : Rs) (res : Result Next) : Prop := ∃ nx E', res = .ok nx E'.w ∧ ((∃ v, nx = .value v ∧ Rep E' rs.a v) ∨ (nx = .skip ∧ Rep E' rs.a undef)) ∧ R E' ∧ Ext E E' ∧ E'.O = rs.O ∧ E'.G = rs.G

section
variable {P : Program}

theorem OpRes.of_done {E : Env} {rs : Rs} {s : Sem Value} (h : Done E rs (s.run P E.w)) : OpRes E rs ((do pure (Next.value (← s)) : Sem Next).run P E.w) := by
  obtain ⟨v, E', h1, h2, h3, h4, h5, h6⟩ := h
  exact ⟨.value v, E', by simp [h1], .inl ⟨v, rfl, h4⟩, h2, h3, h5, h6⟩
theorem OpRes.of_doneU {E : Env} {rs : Rs} {s : Sem Unit} (h : DoneU E rs (s.run P E.w)) : OpRes E rs ((do s; pure Next.skip : Sem Next).run P E.w) := by
  obtain ⟨E', h1, h2, h3, h4, h5, h6⟩ := h
  exact ⟨.skip, E', by simp [h1], .inr ⟨rfl, by rw [h4]; exact .any _⟩, h2, h3, h5, h6⟩
theorem OpRes.pure {E : Env} (r : R E) {ok : Prop} {a : AV} {v : Value} (h : Rep E a v) : OpRes E ⟨ok, a, E.O, E.G⟩ ((Pure.pure (Next.value v) : Sem Next).run P E.w) :=
  ⟨.value v, E, rfl, .inl ⟨v, rfl, h⟩, r, Ext.refl E, rfl, rfl⟩

theorem evPick_rep {E : Env} {c a b : AV} {cv av bv : Value} (hc : Rep E c cv) (ha : Rep E a av) (hb : Rep E b bv) (hok : ∃ t, c = .v (.bool t)) : ∃ t, cv = .bool t ∧ Rep E (evPick c a b) (if t then av else bv) := by
  obtain ⟨t, rfl⟩ := hok
  obtain rfl := rep_v hc
  refine ⟨t, rfl, ?_⟩
  unfold evPick
  split
  · rename_i t' x y e
    injection e with e; injection e with e; subst e
    obtain rfl := rep_v ha; obtain rfl := rep_v hb
    cases t <;> exact .v _
  · rename_i e1 e2
    injection e1 with e1; injection e1 with e1; subst e1
    exact ha
  · rename_i e1 e2
    injection e1 with e1; injection e1 with e1; subst e1
    exact hb
  · exact .any _

/-- What is at hand when an operation comes up. -/
structure At (E : Env) (T : Tmps) (a : Act) : Prop where
  r : R E
  t : RT E T a.tmps

theorem op_simple {pol : List TypeId} {o : Oper} {op : PK} {E : Env} {T : Tmps} {a : Act} (h : At E T a) (htr : trPK P pol o = some op) (hok : (ev T E.O E.G op).ok) :
    (∃ x, o.op = .move x) ∨ (∃ x, o.op = .assign x) ∨ (∃ x y z, o.op = .pick x y z) ∨ (∃ t, o.op = .alloc t) ∨ (∃ t x, o.op = .box t x) ∨ (∃ t x, o.op = .build t x) → OpRes E (ev T E.O E.G op) ((execOp a.eval o).run P E.w) := by
  rintro (⟨x, hop⟩ | ⟨x, hop⟩ | ⟨x, y, z, hop⟩ | ⟨t, hop⟩ | ⟨t, x, hop⟩ | ⟨t, x, hop⟩)
  · simp only [trPK, hop, Option.map_eq_some_iff] at htr
    obtain ⟨y, h1, rfl⟩ := htr
    simp only [execOp, hop, ev]
    exact OpRes.pure h.r (trOD_rep h1 h.t)
  · have hmov : ∀ {op}, (trOD x).map PK.mov = some op → (ev T E.O E.G op).ok → OpRes E (ev T E.O E.G op) ((execOp a.eval o).run P E.w) := by
      intro op h1 hok
      simp only [Option.map_eq_some_iff] at h1
      obtain ⟨y, h1, rfl⟩ := h1
      simp only [execOp, hop, ev]
      exact OpRes.pure h.r (trOD_rep h1 h.t)
    simp only [trPK, hop] at htr
    split at htr
    · split at htr
      · split at htr
        · rename_i e hu
          simp only [Option.map_eq_some_iff] at htr
          obtain ⟨sz, h1, rfl⟩ := htr
          simp only [ev] at hok ⊢
          obtain ⟨v, E', k1, k2, k3, k4, k5, k6⟩ := done_newnil h.r hok (res := .ok (.slice none 0 0) E.w) rfl
          injection k1 with k1 k7
          subst k1
          refine ⟨.value (.slice none 0 0), E', ?_, .inl ⟨_, rfl, k4⟩, k2, k3, k5, k6⟩
          simp only [execOp, hop, Act.eval, Sem.run_pure, k7]
        · cases htr
      · exact hmov htr hok
    · exact hmov htr hok
  · simp only [trPK, hop] at htr
    split at htr
    · rename_i c' a' b' h1 h2 h3
      injection htr with htr; subst htr
      simp only [ev] at hok ⊢
      obtain ⟨t, k1, k2⟩ := evPick_rep (trOD_rep h1 h.t) (trOD_rep h2 h.t) (trOD_rep h3 h.t) hok
      simp only [execOp, hop]
      refine ⟨.value (if t then a.eval y else a.eval z), E, ?_, .inl ⟨_, rfl, k2⟩, h.r, Ext.refl E, rfl, rfl⟩
      simp [k1, asBool]
    · cases htr
  · simp only [trPK, hop, Option.map_eq_some_iff] at htr
    obtain ⟨z, h1, rfl⟩ := htr
    simp only [execOp, hop]
    exact OpRes.of_done (done_alloc h.r h1)
  · simp only [trPK, hop] at htr
    split at htr
    · rename_i n x' h1 h2
      injection htr with htr; subst htr
      simp only [ev] at hok ⊢
      simp only [execOp, hop]
      exact OpRes.of_done (done_box h.r (trOD_rep h2 h.t) hok)
    · cases htr
  · simp only [trPK, hop] at htr
    simp only [execOp, hop]
    split at htr
    · rename_i z fs hz hu
      simp only [Option.bind_eq_some_iff] at hz
      obtain ⟨i, hi, hz⟩ := hz
      split at htr
      · rename_i places zc hp hc
        simp only [Option.map_eq_some_iff] at htr
        obtain ⟨tp, h3, rfl⟩ := htr
        simp only [ev] at hok ⊢
        exact OpRes.of_done (done_build h.r h.t hc h3 (built_struct hi hz hu hp) hok)
      · cases htr
    · rename_i z n e hz hu
      simp only [Option.bind_eq_some_iff] at hz
      obtain ⟨i, hi, hz⟩ := hz
      split at htr
      · rename_i ie zc hie hc
        simp only [Option.map_eq_some_iff] at htr
        obtain ⟨tp, h3, rfl⟩ := htr
        simp only [ev] at hok ⊢
        exact OpRes.of_done (done_build h.r h.t hc h3 (built_array hi hz hu hie) hok)
      · cases htr
    · cases htr
end
end Go.VL
