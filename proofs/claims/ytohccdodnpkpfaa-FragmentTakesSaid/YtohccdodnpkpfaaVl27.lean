/- Value logic, part 27: contracts of the kit's over real memory are contracts over abstract values; rows of strings. -/
import Derived.Test.YtohccdodnpkpfaaVl26
import Derived.Lib.Join
set_option linter.unusedVariables false
set_option linter.unusedSimpArgs false
namespace Go.VL
open Go.RowKit

/-- A function that has a body. -/
def HasBody (P : Program) (f : Nat) : Prop := ∃ fn : Func, P.funcs[f]? = some fn ∧ fn.body.isSome = true ∧ (fn.name == "runtime.NumGoroutine") = false

/-- A call that makes new memory alone, and returns a value without memory of its own. -/
theorem PQ.of_below {P : Program} {f : Nat} (hf : HasBody P f) {args : List AV} {O : List AO} {G : List Nat} {r : AV}
    (h : ∀ (E : Env) (vs : List Value), R E → E.O = O → E.G = G → RepL E args vs → Calls P f vs.toArray E.w fun e w' => ∃ v, e = .returned v ∧ Below E.w.heap.size E.w w' ∧ ∀ E' : Env, E'.w = w' → E'.O = E.O → E'.pl = E.pl → Ext E E' → R E' → (∀ b hi, E.w.heap.size ≤ b → b < w'.heap.size → E'.F b hi) → Rep E' r v) : PQ P f args O G r := by
  intro E vs hR hO hG hv
  obtain ⟨fn, h1, h2, h3⟩ := hf
  refine FnCall.of_calls h1 h2 (by simpa using h3) ((h E vs hR hO hG hv).mono ?_)
  rintro e w' ⟨v, rfl, hb, hrep⟩
  have x := Env.grow_ext hR hb
  have hR' := Env.grow_R hR hb
  exact ⟨E.grow w', r, rfl, hR', x, hrep (E.grow w') rfl rfl rfl x hR' (fun b hi h1 h2 => .inr ⟨h1, h2⟩), rfl, hO, hG⟩

/-- A pure call, as any call. -/
theorem PCall.of_pf {P : Program} {f : Nat} {args : List AV} {r : AV} (h : PF P f args r) {O : List AO} {G : List Nat} : PCall P f args O G fun r' O' G' => r' = r ∧ O' = O ∧ G' = G :=
  fun E vs hR hO hG hv => (h.lift hR hv).mono fun v w' ⟨E', k1, k2, k3, k4, k5, k6⟩ => ⟨E', r, k1, k2, k3, k4, rfl, k5.trans hO, k6.trans hG⟩

theorem RepL.strs {E : Env} : ∀ {bs : List ByteArray} {vs : List Value}, RepL E (bs.map fun b => .v (.string b)) vs → vs = bs.map .string
  | [], _, .nil => rfl
  | b :: bs, v :: vs, .cons h hs => by rw [rep_v h, RepL.strs hs]; rfl
theorem flat_strs (bs : List ByteArray) : flat (bs.map Value.string) = bs.map Value.string := by
  induction bs with
  | nil => rfl
  | cons b bs ih =>
    simp only [flat, List.map_cons, List.flatMap_cons] at ih ⊢
    rw [ih]; rfl

/-- A row of strings that has a place, as it lies in memory. -/
theorem R.strRow {E : Env} (r : R E) {l g : Nat} {bs : List ByteArray} {y : Value} (hl : E.O[l]? = some (.arr 1 g (bs.map fun b => .v (.string b)))) (hy : Rep E (.lsl l g 0 bs.length) y) :
    (bs = [] ∧ ∃ a, y = .slice a 0 0) ∨ ∃ b c, y = .slice (some ⟨b, 0, none⟩) bs.length c ∧ bs.length ≤ c ∧ b < E.w.heap.size ∧ ∀ (j : Nat) x, bs[j]? = some x → E.w.cell? ⟨b, 0 + j, none⟩ = some (.string x) := by
  cases hy with
  | lsl hy _ =>
    obtain ⟨sz, h, xs, h1, h2, h3⟩ := hy
    rw [hl] at h1
    injection h1 with h1; injection h1 with e1 e2 e3
    subst e1; subst e2; subst e3
    rcases h3 rfl with ⟨h4, h5⟩ | ⟨b, cur, e, cap, h4, h5, h6, h7, h8⟩
    · exact .inl ⟨by simpa using h4, h5⟩
    · right
      have ho := r.obj l _ hl
      obtain ⟨_, ho⟩ := ho
      rcases ho with ⟨h9, _⟩ | ⟨b', cur', e', vs, h9, h10, h11, h12, h13⟩
      · rw [h9] at h4; cases h4
      · rw [h9] at h4
        injection h4 with h4; subst h4
        refine ⟨b', cap, by simpa using h6, h7, (Array.getElem?_eq_some_iff.1 h10).1, fun j x hj => ?_⟩
        have hvs := h11.strs
        subst hvs
        rw [flat_strs] at h13
        exact rowAt_arr h10 h13 j (.string x) (by rw [List.getElem?_map, hj]; rfl)

/-- strings.Join of a row that has a place. -/
theorem join_pq {P : Program} {f : Nat} (hf : HasBody P f)
    (C0 : ∀ (a : Option Addr) (c : Nat) (sep : ByteArray) (w : World), Calls P f #[.slice a 0 c, .string sep] w fun e w' => e = .returned (.string ⟨#[]⟩) ∧ w' = w)
    (C1 : ∀ (bk o c : Nat) (xs : List ByteArray) (sep : ByteArray) (w : World), (∀ (j : Nat) x, xs[j]? = some x → w.cell? ⟨bk, o + j, none⟩ = some (.string x)) → bk < w.heap.size → xs.length ≤ 140737488355328 → xs.length ≤ c → (Lib.join (xs.map (·.data.toList)) sep.data.toList).length ≤ 140737488355328 →
      Calls P f #[.slice (some ⟨bk, o, none⟩) xs.length c, .string sep] w fun e w' => e = .returned (.string ⟨(Lib.join (xs.map (·.data.toList)) sep.data.toList).toArray⟩) ∧ Below w.heap.size w w')
    {O : List AO} {G : List Nat} {l g : Nat} {bs : List ByteArray} (hl : O[l]? = some (.arr 1 g (bs.map fun b => .v (.string b)))) (sep : ByteArray) (hlen : bs.length ≤ 140737488355328) (hj : (Lib.join (bs.map (·.data.toList)) sep.data.toList).length ≤ 140737488355328) :
    PQ P f [.lsl l g 0 bs.length, .v (.string sep)] O G (.v (.string ⟨(Lib.join (bs.map (·.data.toList)) sep.data.toList).toArray⟩)) := by
  refine PQ.of_below hf ?_
  intro E vs hR hO hG hv
  subst hO
  cases hv with
  | cons hy hv =>
    cases hv with
    | cons hs hv =>
      cases hv
      have := rep_v hs; subst this
      rcases hR.strRow hl hy with ⟨rfl, a, rfl⟩ | ⟨b, c, rfl, h1, h2, h3⟩
      · refine (C0 a 0 sep E.w).mono ?_
        rintro e w' ⟨rfl, rfl⟩
        exact ⟨_, rfl, Below.refl _ _, fun E' _ _ _ _ _ _ => .v _⟩
      · refine (C1 b 0 c bs sep E.w h3 h2 hlen h1 hj).mono ?_
        rintro e w' ⟨rfl, hb⟩
        exact ⟨_, rfl, hb, fun E' _ _ _ _ _ _ => .v _⟩
end Go.VL
