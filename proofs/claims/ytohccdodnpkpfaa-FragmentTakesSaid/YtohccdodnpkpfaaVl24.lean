/- Value logic, part 24: places that a call has made for itself are forgotten behind it. -/
import Derived.Test.YtohccdodnpkpfaaVl23
set_option linter.unusedVariables false
set_option linter.unusedSimpArgs false
namespace Go.VL
open Go.RowKit

mutual
/-- Every place is below n, every token below m. -/
def AV.val (n m : Nat) : AV → Bool
  | .any | .v _ => true
  | .agg cs | .tup cs => AV.valL n m cs
  | .sl xs (.tok k) => k < m && AV.valL n m xs
  | .sl xs _ => AV.valL n m xs
  | .fp x _ => AV.val n m x
  | .lsl l _ _ _ | .ref l _ | .er l _ _ _ | .lm l | .it l | .stm l _ _ _ => l < n
  | .fn _ xs ys => AV.valL n m xs && AV.valL n m ys
  | .ifc _ x => AV.val n m x
def AV.valL (n m : Nat) : List AV → Bool
  | [] => true
  | a :: as => AV.val n m a && AV.valL n m as
end

theorem LslAt.lt {E : Env} {l g off len : Nat} {y : Value} (h : LslAt E l g off len y) : l < E.O.length := by obtain ⟨_, _, _, h, _⟩ := h; exact lt_of_get h
theorem ErAt.lt {E : Env} {l g i off : Nat} {y : Value} (h : ErAt E l g i off y) : l < E.O.length := by obtain ⟨_, _, _, h, _⟩ := h; exact lt_of_get h
theorem StmAt.lt {E : Env} {l g : Nat} {k y : Value} {ls : List Leaf} (h : StmAt E l g k ls y) : l < E.O.length := by obtain ⟨_, _, _, h, _⟩ := h; exact lt_of_get h

mutual
theorem Rep.val {E : Env} : ∀ {a : AV} {y : Value}, Rep E a y → a.val E.O.length E.G.length = true
  | _, _, .any y => rfl
  | _, _, .v y => rfl
  | _, _, .agg h h1 => by simp only [AV.val]; exact RepL.val h
  | _, _, .tup h => by simp only [AV.val]; exact RepL.val h
  | _, _, .slE (t := t) a cap h1 h2 => by cases t <;> first | rfl | exact absurd rfl (h2 _)
  | _, _, .sl (t := t) b o cap sz h0 h1 h2 h3 h4 h5 h6 h7 => by
    have := RepL.val h1
    cases t with
    | full => simpa only [AV.val] using this
    | shut => simpa only [AV.val] using this
    | tok k =>
      obtain ⟨m, hm, _⟩ := h7
      simp only [AV.val, this, Bool.and_true, decide_eq_true_eq]
      exact lt_of_get hm
  | _, _, .fp b o h1 h2 h3 => by simp only [AV.val]; exact Rep.val h1
  | _, _, .lsl h h1 => by simp only [AV.val, decide_eq_true_eq]; exact h.lt
  | _, _, .ref b cs h1 h2 => by simp only [AV.val, decide_eq_true_eq]; exact lt_of_get h1
  | _, _, .refB b s h1 h2 => by simp only [AV.val, decide_eq_true_eq]; exact lt_of_get h1
  | _, _, .er h h1 => by simp only [AV.val, decide_eq_true_eq]; exact h.lt
  | _, _, .lm b g es h1 h2 => by simp only [AV.val, decide_eq_true_eq]; exact lt_of_get h1
  | _, _, .itS b s p h1 h2 => by simp only [AV.val, decide_eq_true_eq]; exact lt_of_get h1
  | _, _, .itM b m g ks h1 h2 => by simp only [AV.val, decide_eq_true_eq]; exact lt_of_get h1
  | _, _, .stm h h1 => by simp only [AV.val, decide_eq_true_eq]; exact h.lt
  | _, _, .fn h1 h2 => by simp only [AV.val, Bool.and_eq_true]; exact ⟨RepL.val h1, RepL.val h2⟩
  | _, _, .ifc h => by simp only [AV.val]; exact Rep.val h
theorem RepL.val {E : Env} : ∀ {as : List AV} {ys : List Value}, RepL E as ys → AV.valL E.O.length E.G.length as = true
  | _, _, .nil => rfl
  | _, _, .cons h hs => by simp only [AV.valL, Bool.and_eq_true]; exact ⟨Rep.val h, RepL.val hs⟩
end

/-- The same environment, with fewer places and tokens. -/
structure Cut (E E' : Env) (n m : Nat) : Prop where
  F : E'.F = E.F
  w : E'.w = E.w
  pl : E'.pl = E.pl
  tk : E'.tk = E.tk
  O : ∀ l, l < n → E'.O[l]? = E.O[l]?
  G : ∀ t, t < m → E'.G[t]? = E.G[t]?

theorem Cut.lsl {E E' : Env} {n m : Nat} (c : Cut E E' n m) {l g off len : Nat} {y : Value} (hl : l < n) (h : LslAt E l g off len y) : LslAt E' l g off len y := by
  unfold LslAt at *; rw [c.O l hl, c.pl, c.w]; exact h
theorem Cut.er {E E' : Env} {n m : Nat} (c : Cut E E' n m) {l g i off : Nat} {y : Value} (hl : l < n) (h : ErAt E l g i off y) : ErAt E' l g i off y := by
  unfold ErAt at *; rw [c.O l hl, c.pl]; exact h
theorem Cut.stm {E E' : Env} {n m : Nat} (c : Cut E E' n m) {l g : Nat} {k y : Value} {ls : List Leaf} (hl : l < n) (h : StmAt E l g k ls y) : StmAt E' l g k ls y := by
  unfold StmAt at *; rw [c.O l hl, c.pl, c.w]; exact h
theorem Cut.tail {E E' : Env} {n m : Nat} (c : Cut E E' n m) {b o cap sz k : Nat} {t : Tail} (ht : ∀ j, t = .tok j → j < m) (h : TailAt E b o cap sz k t) : TailAt E' b o cap sz k t := by
  cases t with
  | full => exact h
  | shut => trivial
  | tok j =>
    obtain ⟨q, h1, h2, h3⟩ := h
    exact ⟨q, (c.G j (ht j rfl)).trans h1, h2, fun e => by rw [c.tk, c.w]; exact h3 e⟩
theorem Cut.safe {E E' : Env} {n m : Nat} (c : Cut E E' n m) {b hi : Nat} (h : E.safe b hi) : E'.safe b hi := by
  unfold Env.safe at *; rw [c.F]; exact h

mutual
theorem Rep.cut {E E' : Env} {n m : Nat} (c : Cut E E' n m) : ∀ {a : AV} {y : Value}, Rep E a y → a.val n m = true → Rep E' a y
  | _, _, .any y, _ => .any y
  | _, _, .v y, _ => .v y
  | _, _, .agg h h1, hv => .agg (RepL.cut c h (by simpa only [AV.val] using hv)) h1
  | _, _, .tup h, hv => .tup (RepL.cut c h (by simpa only [AV.val] using hv))
  | _, _, .slE a cap h1 h2, _ => .slE a cap h1 h2
  | _, _, .sl (xs := xs) (vs := vs) (t := t) b o cap sz h0 h1 h2 h3 h4 h5 h6 h7, hv => by
    have hvl : AV.valL n m xs = true := by cases t <;> simp [AV.val] at hv <;> first | exact hv | exact hv.2
    have ht : ∀ j, t = .tok j → j < m := by rintro j rfl; simp [AV.val] at hv; exact hv.1
    exact .sl b o cap sz h0 (RepL.cut c h1 hvl) h2 h3 (by rw [c.w]; exact h4) (c.safe h5) h6 (c.tail ht h7)
  | _, _, .fp b o h1 h2 h3, hv => .fp b o (Rep.cut c h1 (by simpa only [AV.val] using hv)) (by rw [c.w]; exact h2) (c.safe h3)
  | _, _, .lsl h h1, hv => .lsl (c.lsl (by simpa [AV.val] using hv) h) h1
  | _, _, .ref b cs h1 h2, hv => .ref b cs ((c.O _ (by simpa [AV.val] using hv)).trans h1) (by rw [c.pl]; exact h2)
  | _, _, .refB b s h1 h2, hv => .refB b s ((c.O _ (by simpa [AV.val] using hv)).trans h1) (by rw [c.pl]; exact h2)
  | _, _, .er h h1, hv => .er (c.er (by simpa [AV.val] using hv) h) h1
  | _, _, .lm b g es h1 h2, hv => .lm b g es ((c.O _ (by simpa [AV.val] using hv)).trans h1) (by rw [c.pl]; exact h2)
  | _, _, .itS b s p h1 h2, hv => .itS b s p ((c.O _ (by simpa [AV.val] using hv)).trans h1) (by rw [c.pl]; exact h2)
  | _, _, .itM b k g ks h1 h2, hv => .itM b k g ks ((c.O _ (by simpa [AV.val] using hv)).trans h1) (by rw [c.pl]; exact h2)
  | _, _, .stm h h1, hv => .stm (c.stm (by simpa [AV.val] using hv) h) h1
  | _, _, .fn h1 h2, hv => by
    simp only [AV.val, Bool.and_eq_true] at hv
    exact .fn (RepL.cut c h1 hv.1) (RepL.cut c h2 hv.2)
  | _, _, .ifc h, hv => .ifc (Rep.cut c h (by simpa only [AV.val] using hv))
theorem RepL.cut {E E' : Env} {n m : Nat} (c : Cut E E' n m) : ∀ {as : List AV} {ys : List Value}, RepL E as ys → AV.valL n m as = true → RepL E' as ys
  | _, _, .nil, _ => .nil
  | _, _, .cons h hs, hv => by
    simp only [AV.valL, Bool.and_eq_true] at hv
    exact .cons (Rep.cut c h hv.1) (RepL.cut c hs hv.2)
end

/-- What an object holds: its values. -/
def AO.avs : AO → List AV
  | .cells cs | .arr _ _ cs => cs
  | .map _ es => es.map Prod.snd
  | _ => []
/-- Every place that objects name is below n, every token below m. -/
def AO.val (n m : Nat) (o : AO) : Bool := AV.valL n m o.avs && (match o with | .miter k _ _ => k < n | _ => true)
def AOs.val (n m : Nat) : List AO → Bool
  | [] => true
  | o :: os => o.val n m && AOs.val n m os

theorem AOs.val_get {n m : Nat} : ∀ {os : List AO}, AOs.val n m os = true → ∀ {l : Nat} {o : AO}, os[l]? = some o → o.val n m = true
  | [], _, l, o, h => by simp at h
  | x :: os, hv, l, o, h => by
    simp only [AOs.val, Bool.and_eq_true] at hv
    cases l with
    | zero => simp at h; subst h; exact hv.1
    | succ l => exact AOs.val_get hv.2 (by simpa using h)

theorem AV.valL_map {n m : Nat} : ∀ {es : List (Value × AV)} {i : Nat} {p : Value × AV}, AV.valL n m (es.map Prod.snd) = true → es[i]? = some p → AV.val n m p.2 = true
  | [], i, p, _, h => by simp at h
  | e :: es, i, p, hv, h => by
    simp only [List.map_cons, AV.valL, Bool.and_eq_true] at hv
    cases i with
    | zero => simp at h; subst h; exact hv.1
    | succ i => exact AV.valL_map hv.2 (by simpa using h)

theorem RepE.cut {E E' : Env} {n m : Nat} (c : Cut E E' n m) : ∀ {es : List (Value × AV)} {cs : List MapEntry}, RepE E es cs → AV.valL n m (es.map Prod.snd) = true → RepE E' es cs
  | _, _, .nil, _ => .nil
  | _, _, .cons h1 h2 h3, hv => by
    simp only [List.map_cons, AV.valL, Bool.and_eq_true] at hv
    exact .cons h1 (h2.cut c hv.1) (RepE.cut c h3 hv.2)

/-- Behind a call: only the first places and tokens are kept. -/
theorem R.cut {E : Env} (r : R E) {n m : Nat} (hn : n ≤ E.O.length) (hm : m ≤ E.G.length) (hv : AOs.val n m (E.O.take n) = true) : R { E with O := E.O.take n, G := E.G.take m } := by
  let E' : Env := { E with O := E.O.take n, G := E.G.take m }
  have hO : ∀ l, l < n → (E.O.take n)[l]? = E.O[l]? := fun l hl => by rw [List.getElem?_take, if_pos hl]
  have hG : ∀ t, t < m → (E.G.take m)[t]? = E.G[t]? := fun l hl => by rw [List.getElem?_take, if_pos hl]
  have c : Cut E E' n m := ⟨rfl, rfl, rfl, rfl, hO, hG⟩
  have lO : ∀ {l : Nat} {o : AO}, (E.O.take n)[l]? = some o → l < n ∧ E.O[l]? = some o := fun {l o} h => by
    have := lt_of_get h
    rw [List.length_take] at this
    have hl : l < n := by omega
    exact ⟨hl, by rw [← hO l hl]; exact h⟩
  have lG : ∀ {t k : Nat}, (E.G.take m)[t]? = some k → t < m ∧ E.G[t]? = some k := fun {l o} h => by
    have := lt_of_get h
    rw [List.length_take] at this
    have hl : l < m := by omega
    exact ⟨hl, by rw [← hG l hl]; exact h⟩
  have ln : (E.O.take n).length = n := by simp; omega
  have lm : (E.G.take m).length = m := by simp; omega
  refine ⟨r.below, r.base_le, r.Flt, fun l b hl => r.plOk l b (by simp at hl; omega), fun l l' b hl hl' => r.plInj l l' b (by simp at hl; omega) (by simp at hl'; omega), fun t k ht => r.tkOk t k (lG ht).2,
    fun t t' ht ht' => r.tkInj t t' (by simp at ht; omega) (by simp at ht'; omega), fun l b t hl hp ht => r.plTk l b t (by simp at hl; omega) hp (by simp at ht; omega), fun l o ho => ?_⟩
  obtain ⟨hl, ho'⟩ := lO ho
  have hob := r.obj l o ho'
  have hov := AOs.val_get hv ho
  cases o with
  | cells cs =>
    obtain ⟨b, vs, e, h1, h2, h3, h4⟩ := hob
    simp only [AO.val, AO.avs, Bool.and_true] at hov
    exact ⟨b, vs, e, h1, h2, h3.cut c hov, h4⟩
  | arr sz g xs =>
    obtain ⟨h0, hob⟩ := hob
    simp only [AO.val, AO.avs, Bool.and_true] at hov
    refine ⟨h0, hob.imp id ?_⟩
    rintro ⟨b, cur, e, vs, h1, h2, h3, h4, h5⟩
    exact ⟨b, cur, e, vs, h1, h2, h3.cut c hov, h4, h5⟩
  | map g es =>
    obtain ⟨b, ces, clk, h1, h2, h3, h4⟩ := hob
    simp only [AO.val, AO.avs, Bool.and_true] at hov
    exact ⟨b, ces, clk, h1, h2, h3.cut c hov, h4⟩
  | siter s p => exact hob
  | miter k g left =>
    obtain ⟨b, bm, since, seen, stepped, h1, h2, h3, ⟨g', es, h4, h5⟩, h6⟩ := hob
    simp only [AO.val, AO.avs, AV.valL, Bool.true_and, decide_eq_true_eq] at hov
    refine ⟨b, bm, since, seen, stepped, h1, h2, h3, ⟨g', es, (hO k hov).trans h4, h5⟩, fun es' he => ?_⟩
    exact h6 es' ((hO k hov).symm.trans he)
  | bld s => exact hob.elim

theorem Ext.cut {E E' : Env} (x : Ext E E') {n m : Nat} (hn : E.O.length ≤ n) (hm : E.G.length ≤ m) : Ext E { E' with O := E'.O.take n, G := E'.G.take m } where
  base_eq := x.base_eq
  w0_eq := x.w0_eq
  safe := x.safe
  old := x.old
  cell := x.cell
  objs := fun l o h => by
    obtain ⟨o', h1, h2, h3⟩ := x.objs l o h
    have := lt_of_get h
    exact ⟨o', by dsimp only; rw [List.getElem?_take, if_pos (by omega)]; exact h1, h2, h3⟩
  keys := fun k bm ces clk g es es' h1 h2 h3 h4 => by
    have := lt_of_get h2
    dsimp only at h3
    rw [List.getElem?_take, if_pos (by omega)] at h3
    exact x.keys k bm ces clk g es es' h1 h2 h3 h4
  tok := fun t k h => by
    obtain ⟨k', h1, h2, h3⟩ := x.tok t k h
    have := lt_of_get h
    exact ⟨k', by dsimp only; rw [List.getElem?_take, if_pos (by omega)]; exact h1, h2, h3⟩

/-- A call's own places are forgotten. -/
theorem PCall.cut {P : Program} {f : Nat} {args : List AV} {O : List AO} {G : List Nat} {K : AV → List AO → List Nat → Prop}
    (h : PCall P f args O G fun r O' G' => ∃ n m, O.length ≤ n ∧ G.length ≤ m ∧ n ≤ O'.length ∧ m ≤ G'.length ∧ AOs.val n m (O'.take n) = true ∧ r.val n m = true ∧ K r (O'.take n) (G'.take m)) : PCall P f args O G K := by
  intro E vs hR hO hG hv
  subst hO; subst hG
  refine (h E vs hR rfl rfl hv).mono ?_
  rintro v w' ⟨E', r, rfl, k2, k3, k4, n, m, q1, q2, q3, q4, q5, q6, q7⟩
  exact ⟨{ E' with O := E'.O.take n, G := E'.G.take m }, r, rfl, k2.cut q3 q4 q5, k3.cut q1 q2, Rep.cut (E := E') (E' := { E' with O := E'.O.take n, G := E'.G.take m }) (n := n) (m := m) ⟨rfl, rfl, rfl, rfl, fun l hl => by rw [List.getElem?_take, if_pos hl], fun l hl => by rw [List.getElem?_take, if_pos hl]⟩ k4 q6, q7⟩

/-- In a state that is met, every object names only places that are there. -/
theorem R.val {E : Env} (r : R E) : ∀ {l : Nat} {o : AO}, E.O[l]? = some o → o.val E.O.length E.G.length = true := by
  intro l o ho
  have hob := r.obj l o ho
  cases o with
  | cells cs => obtain ⟨b, vs, e, h1, h2, h3, h4⟩ := hob; simp only [AO.val, AO.avs, Bool.and_true]; exact h3.val
  | arr sz g xs =>
    simp only [AO.val, AO.avs, Bool.and_true]
    rcases hob.2 with ⟨_, rfl⟩ | ⟨b, cur, e, vs, h1, h2, h3, _⟩
    · rfl
    · exact h3.val
  | map g es =>
    obtain ⟨b, ces, clk, h1, h2, h3, h4⟩ := hob
    simp only [AO.val, AO.avs, Bool.and_true]
    clear h4 h2 ho
    generalize ces.toList = cs at h3
    induction h3 with
    | nil => rfl
    | cons h1 h2 _ ih => simp only [List.map_cons, AV.valL, Bool.and_eq_true]; exact ⟨h2.val, ih⟩
  | siter s p => rfl
  | miter k g left =>
    obtain ⟨b, bm, since, seen, stepped, h1, h2, h3, ⟨g', es, h4, h5⟩, h6⟩ := hob
    simp only [AO.val, AO.avs, AV.valL, Bool.true_and, decide_eq_true_eq]
    exact lt_of_get h4
  | bld s => exact hob.elim
theorem R.vals {E : Env} (r : R E) : AOs.val E.O.length E.G.length E.O = true := by
  have key : ∀ (os : List AO), (∀ o ∈ os, o.val E.O.length E.G.length = true) → AOs.val E.O.length E.G.length os = true := by
    intro os
    induction os with
    | nil => intro _; rfl
    | cons o os ih => intro h; simp only [AOs.val, Bool.and_eq_true]; exact ⟨h o (by simp), ih fun o' ho' => h o' (by simp [ho'])⟩
  exact key _ fun o ho => by
    obtain ⟨l, hl⟩ := List.getElem?_of_mem ho
    exact r.val hl

/-- In what is met, every place is there: what may be taken for granted at a call. -/
theorem PCall.of_val {P : Program} {f : Nat} {args : List AV} {O : List AO} {G : List Nat} {K : AV → List AO → List Nat → Prop}
    (h : AOs.val O.length G.length O = true → AV.valL O.length G.length args = true → PCall P f args O G K) : PCall P f args O G K := by
  intro E vs hR hO hG hv
  exact h (by rw [← hO, ← hG]; exact hR.vals) (by rw [← hO, ← hG]; exact hv.val) E vs hR hO hG hv

/-- A call that leaves everything as it was, but for places of its own. -/
theorem PQ.cut {P : Program} {f : Nat} {args : List AV} {O : List AO} {G : List Nat} {r : AV} (hr : r.val O.length G.length = true)
    (h : PCall P f args O G fun r' O' G' => r' = r ∧ ∃ J J2, O' = O ++ J ∧ G' = G ++ J2) : PQ P f args O G r := by
  refine PCall.of_val fun hv _ => PCall.cut (PCall.mono h ?_)
  rintro r' O' G' ⟨rfl, J, J2, rfl, rfl⟩
  refine ⟨O.length, G.length, Nat.le_refl _, Nat.le_refl _, by simp, by simp, ?_, hr, rfl, ?_, ?_⟩
  · rw [List.take_left]; exact hv
  · exact List.take_left
  · exact List.take_left
end Go.VL
