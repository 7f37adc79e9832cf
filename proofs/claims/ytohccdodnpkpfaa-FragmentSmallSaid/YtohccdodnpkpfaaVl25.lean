/- Value logic, part 25: a function at hand. -/
import Derived.Test.YtohccdodnpkpfaaVl24
set_option linter.unusedVariables false
set_option linter.unusedSimpArgs false
namespace Go.VL
open Go.RowKit

/-- Function f has this translation, these result slots, and room for k arguments. -/
def FnAt (P : Program) (f : Nat) (pc : PCd) (rs : List Nat) (k : Nat) : Prop := ∃ (fn : Func) (pol : List TypeId) (pur : List Nat), P.funcs[f]? = some fn ∧ (fn.body.bind fun c => tr P pol pur fn.ntmps c) = some pc.er ∧ pc.jok = true ∧
  (fn.name == "runtime.NumGoroutine") = false ∧ fn.results.toList = rs.map ResultVar.tmp ∧ (k ≤ fn.ntmps)

theorem FnAt.call {P : Program} {f : Nat} {pc : PCd} {rs : List Nat} {k : Nat} (hm : P.follows .mixedOrders = true) (h : FnAt P f pc rs k) {args : List AV} (hk : args.length ≤ k) {O : List AO} {G : List Nat} {K : AV → List AO → List Nat → Prop}
    (hp : pe (PSem P) pc (RetK rs K) (argT 0 args) O G) : PCall P f args O G K := by
  obtain ⟨fn, pol, pur, h1, h2, hj, h3, h4, h5⟩ := h
  simp only [Option.bind_eq_some_iff] at h2
  obtain ⟨c, hc, htr⟩ := h2
  exact PCall.of_pe hm h1 hc (by simpa using h3) htr hj h4 (by omega) hp
end Go.VL
