/- Value logic, part 18: calls, and one operation of a region. -/
import Derived.Test.YtohccdodnpkpfaaVl17
set_option linter.unusedVariables false
set_option linter.unusedSimpArgs false
namespace Go.VL
open Go.RowKit

/-- A function is called: with a body, or a row, or at once. -/
def FnCall (P : Program) (f : FuncId) (args : Array Value) (w : World) (K : Value → World → Prop) : Prop :=
  match (callFunc f args).run P w with
  | .ok (.value v) w' => K v w'
  | .ok (.enter g as) w' => Calls P g as w' fun
      | .returned v, w'' => K v w''
      | _, _ => False
  | .ok (.row row as) w' => Rows P row as w' K
  | _ => False

theorem FnCall.mono {P : Program} {f : FuncId} {args : Array Value} {w : World} {K K' : Value → World → Prop} (h : FnCall P f args w K) (hk : ∀ v w', K v w' → K' v w') : FnCall P f args w K' := by
  unfold FnCall at *
  split at h
  · exact hk _ _ h
  · refine Calls.mono h fun e w' he => ?_
    cases e <;> first | exact hk _ _ he | exact he
  · exact Rows.mono h hk
  · exact h.elim

theorem FnCall.of_calls {P : Program} {f : FuncId} {args : Array Value} {w : World} {K : Value → World → Prop} {fn : Func} (hf : P.funcs[f]? = some fn) (hb : fn.body.isSome = true) (hn : fn.name ≠ "runtime.NumGoroutine")
    (h : Calls P f args w fun | .returned v, w'' => K v w'' | _, _ => False) : FnCall P f args w K := by
  have : (callFunc f args).run P w = .ok (.enter f args) w := by
    have h2 : fn.body ≠ none := by intro e; simp [e] at hb
    simp [callFunc, hf, hn, h2]
  unfold FnCall
  rw [this]
  exact h

/-- A call, over abstract values. -/
def PCall (P : Program) : Nat → List AV → List AO → List Nat → (AV → List AO → List Nat → Prop) → Prop := fun f args O G K => ∀ (E : Env) (vs : List Value), R E → E.O = O → E.G = G → RepL E args vs →
  FnCall P f vs.toArray E.w fun v w' => ∃ E' r, E'.w = w' ∧ R E' ∧ Ext E E' ∧ Rep E' r v ∧ K r E'.O E'.G

theorem PCall.mono {P : Program} {f : Nat} {args : List AV} {O : List AO} {G : List Nat} {K K' : AV → List AO → List Nat → Prop} (h : PCall P f args O G K) (hk : ∀ r O G, K r O G → K' r O G) : PCall P f args O G K' :=
  fun E vs r hO hG hv => (h E vs r hO hG hv).mono fun v w' ⟨E', r', h1, h2, h3, h4, h5⟩ => ⟨E', r', h1, h2, h3, h4, hk _ _ _ h5⟩

mutual
/-- A value that stands on frozen memory alone. -/
def AV.closed : AV → Bool
  | .any | .v _ => true
  | .agg cs | .tup cs => AV.closedL cs
  | .sl _ (.tok _) => false
  | .sl xs _ => AV.closedL xs
  | .fp x _ => x.closed
  | .fn _ xs ys => AV.closedL xs && AV.closedL ys
  | .ifc _ x => x.closed
  | _ => false
def AV.closedL : List AV → Bool
  | [] => true
  | a :: as => a.closed && AV.closedL as
end

/-- What is frozen here is frozen there, with the same cells. -/
def Lies (E E' : Env) : Prop := ∀ b hi, E.F b hi → E'.F b hi ∧ ∀ j, j < hi → E'.w.cell? ⟨b, j, none⟩ = E.w.cell? ⟨b, j, none⟩
theorem Lies.safe {E E' : Env} (x : Lies E E') {b hi : Nat} (h : E.safe b hi) : E'.safe b hi := by
  obtain ⟨hi', h1, h2⟩ := h
  exact ⟨hi', h1, (x b hi' h2).1⟩
theorem Lies.cell {E E' : Env} (x : Lies E E') {b hi j : Nat} (h : E.safe b hi) (hj : j < hi) : E'.w.cell? ⟨b, j, none⟩ = E.w.cell? ⟨b, j, none⟩ := by
  obtain ⟨hi', h1, h2⟩ := h
  exact (x b hi' h2).2 j (by omega)
mutual
theorem Rep.lies {E E' : Env} (x : Lies E E') : ∀ {a : AV} {y : Value}, Rep E a y → a.closed = true → Rep E' a y
  | _, _, .any y, _ => .any y
  | _, _, .v y, _ => .v y
  | _, _, .agg h h1, hc => .agg (RepL.lies x h (by simpa [AV.closed] using hc)) h1
  | _, _, .tup h, hc => .tup (RepL.lies x h (by simpa [AV.closed] using hc))
  | _, _, .slE a cap h1 h2, _ => .slE a cap h1 h2
  | _, _, .sl (xs := xs) (vs := vs) (t := t) b o cap sz h0 h1 h2 h3 h4 h5 h6 h7, hc => by
    have hcl : AV.closedL xs = true := by cases t <;> simp [AV.closed] at hc <;> exact hc
    have ht : TailAt E' b o cap sz xs.length t := by cases t <;> simp [AV.closed] at hc <;> exact h7
    exact .sl b o cap sz h0 (RepL.lies x h1 hcl) h2 h3 (h4.of_same fun j hj => x.cell h5 (by rw [length_flat h2, RepL.length h1] at hj; exact hj)) (x.safe h5) h6 ht
  | _, _, .fp b o h1 h2 h3, hc => .fp b o (Rep.lies x h1 (by simpa [AV.closed] using hc)) (h2.of_same fun j hj => x.cell h3 (by simpa using hj)) (x.safe h3)
  | _, _, .lsl h h1, hc => by simp [AV.closed] at hc
  | _, _, .ref b cs h1 h2, hc => by simp [AV.closed] at hc
  | _, _, .refB b cs h1 h2, hc => by simp [AV.closed] at hc
  | _, _, .er h h1, hc => by simp [AV.closed] at hc
  | _, _, .lm b g es h1 h2, hc => by simp [AV.closed] at hc
  | _, _, .itS b s p h1 h2, hc => by simp [AV.closed] at hc
  | _, _, .itM b m g ks h1 h2, hc => by simp [AV.closed] at hc
  | _, _, .stm h h1, hc => by simp [AV.closed] at hc
  | _, _, .fn h1 h2, hc => by
    simp [AV.closed] at hc
    exact .fn (RepL.lies x h1 hc.1) (RepL.lies x h2 hc.2)
  | _, _, .ifc h, hc => .ifc (Rep.lies x h (by simpa [AV.closed] using hc))
theorem RepL.lies {E E' : Env} (x : Lies E E') : ∀ {as : List AV} {ys : List Value}, RepL E as ys → AV.closedL as = true → RepL E' as ys
  | _, _, .nil, _ => .nil
  | _, _, .cons h hs, hc => by
    simp [AV.closedL] at hc
    exact .cons (Rep.lies x h hc.1) (RepL.lies x hs hc.2)
end

def shutT : AV → AV
  | .tup cs => .tup (cs.map shut)
  | a => shut a
theorem RepL.shutL {E : Env} : ∀ {as : List AV} {vs : List Value}, RepL E as vs → RepL E (as.map shut) vs
  | _, _, .nil => .nil
  | _, _, .cons h hs => .cons (shut_rep h) (RepL.shutL hs)
theorem Rep.shutT {E : Env} {a : AV} {v : Value} (h : Rep E a v) : Rep E (shutT a) v := by
  cases a with
  | tup cs => cases h with | tup h => exact .tup h.shutL
  | _ => exact shut_rep h

/-- A call that leaves the places of its caller alone: its result stands on frozen memory. -/
def PF (P : Program) (f : Nat) (args : List AV) (r : AV) : Prop := AV.closedL args = true ∧ r.closed = true ∧ ∀ (E : Env) (vs : List Value), R E → E.O = [] → E.G = [] → RepL E args vs →
  FnCall P f vs.toArray E.w fun v w' => ∃ E', E'.w = w' ∧ R E' ∧ Ext E E' ∧ Rep E' r v

theorem PF.of_PCall {P : Program} {f : Nat} {args : List AV} {r : AV} (h1 : AV.closedL args = true) (h2 : r.closed = true) (h : PCall P f args [] [] fun r' _ _ => Go.VL.shutT r' = r) : PF P f args r :=
  ⟨h1, h2, fun E vs rr hO hG hv => (h E vs rr hO hG hv).mono fun v w' ⟨E', r', k1, k2, k3, k4, k5⟩ => ⟨E', k1, k2, k3, k5 ▸ k4.shutT⟩⟩

theorem PF.lift {P : Program} {f : Nat} {args : List AV} {r : AV} (h : PF P f args r) {E : Env} {vs : List Value} (rr : R E) (hv : RepL E args vs) :
    FnCall P f vs.toArray E.w fun v w' => ∃ E', E'.w = w' ∧ R E' ∧ Ext E E' ∧ Rep E' r v ∧ E'.O = E.O ∧ E'.G = E.G := by
  obtain ⟨h1, h2, h3⟩ := h
  let E0 : Env := { E with O := [], G := [], base := E.w.heap.size, w0 := E.w }
  have r0 : R E0 := by
    refine ⟨Below.refl _ _, Nat.le_refl _, rr.Flt, ?_, ?_, ?_, ?_, ?_, ?_⟩
    · intro l b hl; simp [E0] at hl
    · intro l l' b hl; simp [E0] at hl
    · intro t m hm; simp [E0] at hm
    · intro t t' hl; simp [E0] at hl
    · intro l b t hl; simp [E0] at hl
    · intro l o ho; simp [E0] at ho
  have hv0 : RepL E0 args vs := RepL.lies (E := E) (E' := E0) (fun b hi hf => ⟨hf, fun _ _ => rfl⟩) hv h1
  refine (h3 E0 vs r0 rfl rfl hv0).mono ?_
  rintro v w' ⟨E1, rfl, k1, k2, k3⟩
  have hbel : Below E.w.heap.size E.w E1.w := by
    have := k1.below
    rw [k2.base_eq, k2.w0_eq] at this
    exact this
  let E' : Env := { E with w := E1.w, F := fun b hi => E.F b hi ∨ (E.w.heap.size ≤ b ∧ E1.F b hi) }
  have x : Ext E E' := by
    refine ⟨rfl, rfl, fun b hi h => .inl h, fun b hi h hb => h.resolve_right (fun e => by have := rr.base_le; omega), fun b hi j h hj => cell_of_heap (hbel.block b (rr.Flt b hi h)), ?_, ?_, ?_⟩
    · exact fun l o h => ⟨o, h, AO.le_refl o, .inr ⟨rfl, fun b hpl => SameSize.of_eq (hbel.block b (rr.plOk l b (lt_of_get h) hpl).2.1)⟩⟩
    · exact KeysKept.of_blocks fun m bm g es h1 h2 => hbel.block bm (rr.plOk m bm (lt_of_get h2) h1).2.1
    · exact fun t m h => ⟨m, h, Nat.le_refl _, fun _ => ⟨rfl, by
        obtain ⟨cur, e, hc, _⟩ := (rr.tkOk t m h).2.1
        exact SameSize.of_eq (hbel.block _ (Array.getElem?_eq_some_iff.1 hc).1)⟩⟩
  refine ⟨E', rfl, ?_, x, ?_, rfl, rfl⟩
  · refine ⟨(Turn.of_below hbel E.base).below rr (Nat.le_refl _), Nat.le_trans rr.base_le hbel.size, ?_, ?_, rr.plInj, ?_, rr.tkInj, rr.plTk, ?_⟩
    · rintro b hi (h | h)
      · exact Nat.lt_of_lt_of_le (rr.Flt b hi h) hbel.size
      · exact k1.Flt b hi h.2
    · intro l b hl hpl
      obtain ⟨q1, q2, q3⟩ := rr.plOk l b hl hpl
      refine ⟨q1, Nat.lt_of_lt_of_le q2 hbel.size, ?_⟩
      rintro hi (h | h)
      · exact q3 hi h
      · omega
    · intro t m hm
      obtain ⟨q1, ⟨cur, e, q2, q3⟩, q4⟩ := rr.tkOk t m hm
      have hlt := (Array.getElem?_eq_some_iff.1 q2).1
      refine ⟨q1, ⟨cur, e, (hbel.block _ hlt).trans q2, q3⟩, ?_⟩
      rintro hi (h | h)
      · exact q4 hi h
      · exact absurd h.1 (Nat.not_le.2 hlt)
    · intro l o ho
      exact (rr.obj l o ho).mono x rfl (fun b hpl => hbel.block b (rr.plOk l b (lt_of_get ho) hpl).2.1)
  · refine Rep.lies (E := E1) (E' := E') (fun b hi hf => ⟨?_, fun _ _ => rfl⟩) k3 h2
    rcases Nat.lt_or_ge b E.w.heap.size with hb | hb
    · exact .inl (k2.old b hi hf hb)
    · exact .inr ⟨hb, hf⟩

/-- A call that only looks. -/
def PQ (P : Program) (f : Nat) (args : List AV) (O : List AO) (G : List Nat) (r : AV) : Prop := PCall P f args O G fun r' O' G' => r' = r ∧ O' = O ∧ G' = G

def PSem (P : Program) : CallSem := ⟨PCall P, PF P, PQ P⟩

/-- What holds behind a piece of code. -/
def Hold (N : Nat) (D : List Deferred) (K : Tmps → List AO → List Nat → Prop) (E : Env) (a : Act) (w : World) : Prop :=
  ∃ E' T', E'.w = w ∧ R E' ∧ Ext E E' ∧ RT E' T' a.tmps ∧ a.tmps.size = N ∧ a.defers = D ∧ K T' E'.O E'.G

theorem Hold.mono {N : Nat} {D : List Deferred} {K K' : Tmps → List AO → List Nat → Prop} {E : Env} {a : Act} {w : World} (h : Hold N D K E a w) (hk : ∀ T O G, K T O G → K' T O G) : Hold N D K' E a w :=
  let ⟨E', T', h1, h2, h3, h4, h5, h6, h7⟩ := h
  ⟨E', T', h1, h2, h3, h4, h5, h6, hk _ _ _ h7⟩
theorem Hold.trans {N : Nat} {D : List Deferred} {K : Tmps → List AO → List Nat → Prop} {E E1 : Env} (x : Ext E E1) {a : Act} {w : World} (h : Hold N D K E1 a w) : Hold N D K E a w :=
  let ⟨E', T', h1, h2, h3, h4, h5, h6, h7⟩ := h
  ⟨E', T', h1, h2, x.trans h3, h4, h5, h6, h7⟩

theorem RT.put {E : Env} {T : Tmps} {a : Act} {N : Nat} (h : RT E T a.tmps) (hN : a.tmps.size = N) {d : Option Nat} (hd : dstOK N d = true) {r : AV} {v : Value} (hr : Rep E r v) :
    RT E (put d r T) (a.put d v).tmps ∧ (a.put d v).tmps.size = N ∧ (a.put d v).defers = a.defers := by
  cases d with
  | none => exact ⟨h, hN, rfl⟩
  | some d =>
    simp [dstOK] at hd
    exact ⟨h.set (by rw [hN]; exact hd) hr, by simp [Act.put, hN], rfl⟩

section
variable {P : Program}

/-- What one operation leads to: the rest of the region behind it. -/
def After (P : Program) (N : Nat) (D : List Deferred) (os : List PO) (Q : Post) (E : Env) (a : Act) (w : World) : Prop := Hold N D (peOps (PSem P) Q os) E a w

theorem upon_res {N : Nat} {D : List Deferred} {K : Tmps → List AO → List Nat → Prop} {E : Env} {o : Oper} {T : Tmps} {a : Act} {rs : Rs} {res : Result Next} {QQ : Exit → Act → World → Prop}
    (h : OpRes E rs res) (hT : RT E T a.tmps) (hN : a.tmps.size = N) (hD : a.defers = D) (hd : dstOK N o.dst = true) (hK : K (put o.dst rs.a T) rs.O rs.G) :
    o.upon P a (fun a' w' => Hold N D K E a' w') QQ res := by
  obtain ⟨nx, E', rfl, hv, h2, h3, h4, h5⟩ := h
  rcases hv with ⟨v, rfl, hv⟩ | ⟨rfl, hv⟩
  · rw [Oper.upon_value]
    obtain ⟨k1, k2, k3⟩ := (hT.mono h3).put hN hd hv
    exact ⟨E', _, rfl, h2, h3, k1, k2, k3.trans hD, by rw [h4, h5]; exact hK⟩
  · rw [Oper.upon_skip]
    obtain ⟨k1, k2, k3⟩ := (hT.mono h3).put hN hd hv
    exact ⟨E', _, rfl, h2, h3, k1, k2, k3.trans hD, by rw [h4, h5]; exact hK⟩

theorem upon_call {N : Nat} {D : List Deferred} {K : Tmps → List AO → List Nat → Prop} {E : Env} {o : Oper} {T : Tmps} {a : Act} {QQ : Exit → Act → World → Prop} {f : Nat} {vs : List Value}
    (hr : R E) (hT : RT E T a.tmps) (hN : a.tmps.size = N) (hD : a.defers = D) (hd : dstOK N o.dst = true) (hc : FnCall P f vs.toArray E.w fun v w' => ∃ E' r, E'.w = w' ∧ R E' ∧ Ext E E' ∧ Rep E' r v ∧ K (put o.dst r T) E'.O E'.G) :
    o.upon P a (fun a' w' => Hold N D K E a' w') QQ ((callFunc f vs.toArray).run P E.w) := by
  have fin : ∀ v w', (∃ E' r, E'.w = w' ∧ R E' ∧ Ext E E' ∧ Rep E' r v ∧ K (put o.dst r T) E'.O E'.G) → Hold N D K E (a.put o.dst v) w' := by
    rintro v w' ⟨E', r, rfl, h2, h3, h4, h5⟩
    obtain ⟨k1, k2, k3⟩ := (hT.mono h3).put hN hd h4
    exact ⟨E', _, rfl, h2, h3, k1, k2, k3.trans hD, h5⟩
  unfold FnCall at hc
  split at hc
  · rename_i v w' he
    rw [he, Oper.upon_value]; exact fin v w' hc
  · rename_i g as w' he
    rw [he, Oper.upon_enter]
    refine Calls.mono hc fun e w'' h => ?_
    cases e with
    | returned v => exact fin v w'' h
    | panicked c => exact h.elim
    | outgrown => exact h.elim
  · rename_i row as w' he
    rw [he, Oper.upon_row]
    exact Rows.mono hc fin
  · exact hc.elim

theorem fn_rep {E : Env} {x : AV} {u : Value} {f : Nat} {first cap : List AV} (h : Rep E x u) (hf : fnOf x = some (f, first, cap)) : ∃ vf vc, u = .func (.func f) (List.toArray vf) (List.toArray vc) ∧ RepL E first vf ∧ RepL E cap vc := by
  unfold fnOf at hf
  split at hf
  · injection hf with hf; injection hf with e1 e2; injection e2 with e2 e3
    subst e1; subst e2; subst e3
    cases h with
    | fn h1 h2 => exact ⟨_, _, rfl, h1, h2⟩
  · cases hf

theorem yielded_of {ops : Array Oper} {E : Env} {T : Tmps} {tm : Array Value} {j jd : Nat} {t : Bool} (hj : (ops[j]?).bind (·.dst) = some jd) (hT : RT E T tm) (hv : get T jd = .v (.bool t)) : yielded ops tm j = some t := by
  have h := hT jd
  rw [hv] at h
  have e := rep_v h
  have hlt : jd < tm.size := by
    rcases Nat.lt_or_ge jd tm.size with h | h
    · exact h
    · simp [Array.getD, Nat.not_lt.2 h, undef] at e
  unfold yielded
  rw [hj]
  have : tm[jd]? = some (.bool t) := by
    rw [Array.getElem?_eq_getElem hlt]
    simp [Array.getD, hlt] at e
    rw [e]
  simp [this]

theorem step_sound {pol : List TypeId} {pur : List Nat} {N : Nat} {ops : Array Oper} {o : Oper} {po : PO} (htr : trO P pol pur N ops o = some po) {os : List PO} {Q : Post} {E : Env} {T : Tmps} {a : Act} {D : List Deferred} {QQ : Exit → Act → World → Prop}
    (hr : R E) (hT : RT E T a.tmps) (hN : a.tmps.size = N) (hD : a.defers = D) (h : peOps (PSem P) Q (po :: os) T E.O E.G) :
    if Region.wanted o (yielded ops a.tmps) then o.wp P a E.w (fun a' w' => Hold N D (peOps (PSem P) Q os) E a' w') QQ else Hold N D (peOps (PSem P) Q os) E (a.put o.dst undef) E.w := by
  unfold trO at htr
  split at htr
  case isFalse => cases htr
  rename_i hd
  have hcall : ∀ {f : Nat} {args : List OD}, trCall P o = some (f, args) → ∀ {T : Tmps}, RT E T a.tmps → ∀ {K : Tmps → List AO → List Nat → Prop}, (∀ vs, RepL E (args.map (OD.ev T)) vs → FnCall P f vs.toArray E.w fun v w' => ∃ E' r, E'.w = w' ∧ R E' ∧ Ext E E' ∧ Rep E' r v ∧ K (put o.dst r T) E'.O E'.G) →
      o.wp P a E.w (fun a' w' => Hold N D K E a' w') QQ := by
    intro f args hc T hT K hK
    unfold trCall at hc
    split at hc
    · rename_i c hop
      split at hc
      · rename_i f' hcal
        split at hc
        · rename_i fn hfn
          split at hc
          · simp only [Option.map_eq_some_iff] at hc
            obtain ⟨b, hb, hc⟩ := hc
            injection hc with e1 e2
            subst e1; subst e2
            have hv := trODs_rep hb hT
            have := upon_call (P := P) (o := o) (QQ := QQ) hr hT hN hD hd (hK _ hv)
            unfold Oper.wp
            have he : (execOp a.eval o).run P E.w = (callFunc f' (c.args.toList.map a.eval).toArray).run P E.w := by
              simp only [execOp, hop, resolve, hcal, Act.eval, Deferred.ofValue, Sem.run_bind, Sem.run_pure, Result.andThen_ok, invoke]
              congr 2
              apply Array.toList_inj.1
              simp
            rw [he]
            exact this
          · cases hc
        · cases hc
      · cases hc
    · cases hc
  split at htr
  · rename_i hg
    have hw : Region.wanted o (yielded ops a.tmps) = true := by simp [Region.wanted, hg]
    rw [if_pos hw]
    split at htr
    · rename_i op hop
      injection htr with htr
      have hok : (ev T E.O E.G op).ok := by
        cases hdd : o.dst with
        | none => rw [hdd] at htr; subst htr; exact h.1
        | some d => rw [hdd] at htr; subst htr; exact h.1
      unfold Oper.wp
      refine upon_res (op_sound ⟨hr, hT⟩ hop hok) hT hN hD hd ?_
      cases hdd : o.dst with
      | none => rw [hdd] at htr; subst htr; exact h.2
      | some d => rw [hdd] at htr; subst htr; exact h.2
    · split at htr
      · rename_i f args hc
        have hplain : ∀ {d}, o.dst = d → PO.c d f args = po → o.wp P a E.w (fun a' w' => Hold N D (peOps (PSem P) Q os) E a' w') QQ := by
          rintro d hdd rfl
          subst hdd
          exact hcall hc hT fun vs hv => h E vs hr rfl rfl hv
        split at htr
        · rename_i d hdd
          split at htr
          · injection htr with htr; subst htr
            obtain ⟨r, hp, hK⟩ := h
            refine hcall hc hT fun vs hv => ?_
            have hv' : RepL E (args.map fun x => shut (OD.ev T x)) vs := by have := hv.shutL; rw [List.map_map] at this; exact this
            exact (hp.lift hr hv').mono fun v w' ⟨E', k1, k2, k3, k4, k5, k6⟩ => ⟨E', r, k1, k2, k3, k4, by rw [k5, k6, hdd]; exact hK⟩
          · split at htr
            · injection htr with htr; subst htr
              obtain ⟨r, hp, hK⟩ := h
              refine hcall hc hT fun vs hv => ?_
              exact (hp E vs hr rfl rfl hv).mono fun v w' ⟨E', r', k1, k2, k3, k4, k5, k6, k7⟩ => ⟨E', r', k1, k2, k3, k4, by rw [k5, k6, k7, hdd]; exact hK⟩
            · injection htr with htr
              exact hplain hdd htr
        · rename_i hdd
          injection htr with htr
          exact hplain hdd htr
      · split at htr
        · rename_i x args hc
          injection htr with htr; subst htr
          simp only [peOps, gite] at h
          split at h
          · rename_i f first cap hfn
            unfold trCallV at hc
            split at hc
            · rename_i c hop
              split at hc
              · rename_i n hcal
                simp only [Option.map_eq_some_iff] at hc
                obtain ⟨b, hb, hc⟩ := hc
                injection hc with e1 e2
                subst e1; subst e2
                have hv := trODs_rep hb hT
                obtain ⟨vf, vc, hu, h1, h2⟩ := fn_rep (hT n) hfn
                have hx : a.eval (.tmp n) = .func (.func f) vf.toArray vc.toArray := hu
                have := upon_call (P := P) (o := o) (QQ := QQ) hr hT hN hD hd (h E _ hr rfl rfl ((h1.append hv).append h2))
                unfold Oper.wp
                have he : (execOp a.eval o).run P E.w = (callFunc f (vf ++ c.args.toList.map a.eval ++ vc).toArray).run P E.w := by
                  simp only [execOp, hop, resolve, hcal, hx, Deferred.ofValue, Sem.run_bind, Sem.run_pure, Result.andThen_ok, invoke]
                  congr 2
                  apply Array.toList_inj.1
                  simp
                rw [he]
                exact this
              · cases hc
            · cases hc
          · exact h.elim
        · cases htr
  · rename_i j b hg
    split at htr
    · rename_i jd d hj hdd
      have body : ∀ {t : Bool}, get T jd = .v (.bool t) → Region.wanted o (yielded ops a.tmps) = (t == b) ∧ RT E ((jd, .v (.bool t)) :: T) a.tmps ∧
          Hold N D (fun T' O G => T' = (d, udf) :: (jd, .v (.bool t)) :: T ∧ O = E.O ∧ G = E.G) E (a.put o.dst undef) E.w := by
        intro t ht
        refine ⟨by simp [Region.wanted, hg, yielded_of hj hT ht], ?_, ?_⟩
        · have := hT jd
          rw [ht] at this
          exact hT.over this
        · have h1 : RT E ((jd, .v (.bool t)) :: T) a.tmps := by
            have := hT jd
            rw [ht] at this
            exact hT.over this
          obtain ⟨k1, k2, k3⟩ := h1.put hN hd (r := udf) (.v undef)
          rw [hdd] at k1 ⊢
          exact ⟨E, _, rfl, hr, Ext.refl E, k1, by rw [hdd] at k2; exact k2, by rw [hdd] at k3; exact k3.trans hD, rfl, rfl, rfl⟩
      have body2 : ∀ {x : Array Value}, get T jd = .v (.tuple x) → Region.wanted o (yielded ops a.tmps) = false ∧
          Hold N D (fun T' O G => T' = (d, udf) :: T ∧ O = E.O ∧ G = E.G) E (a.put o.dst undef) E.w := by
        intro x hx
        refine ⟨?_, ?_⟩
        · have h1 := hT jd
          rw [hx] at h1
          have e := rep_v h1
          have : yielded ops a.tmps j = none := by
            unfold yielded
            rw [hj]
            simp only [Option.bind_some]
            cases hq : a.tmps[jd]? with
            | none => rfl
            | some u =>
              have : a.tmps.getD jd undef = u := by rw [Array.getD_eq_getD_getElem?, hq]; rfl
              rw [this] at e
              subst e; rfl
          simp [Region.wanted, hg, this]
        · obtain ⟨k1, k2, k3⟩ := hT.put hN hd (r := udf) (.v undef)
          rw [hdd] at k1 ⊢
          exact ⟨E, _, rfl, hr, Ext.refl E, k1, by rw [hdd] at k2; exact k2, by rw [hdd] at k3; exact k3.trans hD, rfl, rfl, rfl⟩
      split at htr
      · rename_i op hop
        injection htr with htr; subst htr
        simp only [peOps, gite] at h
        split at h
        · rename_i t ht
          obtain ⟨hw, h1, h2⟩ := body ht
          rw [hw]
          by_cases e : t = b
          · subst e
            simp only [beq_self_eq_true, if_true]
            obtain ⟨hok, hK⟩ := h.1 rfl
            unfold Oper.wp
            refine upon_res (op_sound ⟨hr, hT⟩ hop hok) h1 hN hD hd ?_
            rw [hdd]; exact hK
          · have e' : t = !b := by cases t <;> cases b <;> simp at e ⊢
            have hK := h.2 e'
            subst e'
            rw [if_neg (by cases b <;> simp)]
            exact h2.mono fun T' O G ⟨e1, e2, e3⟩ => by rw [e1, e2, e3]; exact hK
        · rename_i x hx
          obtain ⟨hw, h2⟩ := body2 hx
          rw [hw, if_neg (by simp)]
          exact h2.mono fun T' O G ⟨e1, e2, e3⟩ => by rw [e1, e2, e3]; exact h
        · exact h.elim
      · split at htr
        · rename_i f args hc
          have hargs : ∀ t, get T jd = .v (.bool t) → args.map (OD.ev ((jd, .v (.bool t)) :: T)) = args.map (OD.ev T) := by
            intro t ht
            apply List.map_congr_left
            intro x _
            cases x with
            | k a => rfl
            | t n =>
              simp only [OD.ev, get]
              split
              · rename_i e; rw [e, ht]
              · rfl
          split at htr
          · injection htr with htr; subst htr
            simp only [peOps, gite] at h
            split at h
            · rename_i t ht
              obtain ⟨hw, h1, h2⟩ := body ht
              rw [hw]
              by_cases e : t = b
              · subst e
                simp only [beq_self_eq_true, if_true]
                obtain ⟨r, hp, hK⟩ := h.1 rfl
                refine hcall hc h1 fun vs hv => ?_
                rw [hargs _ ht] at hv
                have hv' : RepL E (args.map fun x => shut (OD.ev T x)) vs := by have := hv.shutL; rw [List.map_map] at this; exact this
                exact (hp.lift hr hv').mono fun v w' ⟨E', k1, k2, k3, k4, k5, k6⟩ => ⟨E', r, k1, k2, k3, k4, by rw [k5, k6, hdd]; exact hK⟩
              · have e' : t = !b := by cases t <;> cases b <;> simp at e ⊢
                have hK := h.2 e'
                subst e'
                rw [if_neg (by cases b <;> simp)]
                exact h2.mono fun T' O G ⟨e1, e2, e3⟩ => by rw [e1, e2, e3]; exact hK
            · rename_i x hx
              obtain ⟨hw, h2⟩ := body2 hx
              rw [hw, if_neg (by simp)]
              exact h2.mono fun T' O G ⟨e1, e2, e3⟩ => by rw [e1, e2, e3]; exact h
            · exact h.elim
          · split at htr
            · injection htr with htr; subst htr
              simp only [peOps, gite] at h
              split at h
              · rename_i t ht
                obtain ⟨hw, h1, h2⟩ := body ht
                rw [hw]
                by_cases e : t = b
                · subst e
                  simp only [beq_self_eq_true, if_true]
                  obtain ⟨r, hp, hK⟩ := h.1 rfl
                  refine hcall hc h1 fun vs hv => ?_
                  rw [hargs _ ht] at hv
                  exact (hp E vs hr rfl rfl hv).mono fun v w' ⟨E', r', k1, k2, k3, k4, k5, k6, k7⟩ => ⟨E', r', k1, k2, k3, k4, by rw [k5, k6, k7, hdd]; exact hK⟩
                · have e' : t = !b := by cases t <;> cases b <;> simp at e ⊢
                  have hK := h.2 e'
                  subst e'
                  rw [if_neg (by cases b <;> simp)]
                  exact h2.mono fun T' O G ⟨e1, e2, e3⟩ => by rw [e1, e2, e3]; exact hK
              · rename_i x hx
                obtain ⟨hw, h2⟩ := body2 hx
                rw [hw, if_neg (by simp)]
                exact h2.mono fun T' O G ⟨e1, e2, e3⟩ => by rw [e1, e2, e3]; exact h
              · exact h.elim
            · injection htr with htr; subst htr
              simp only [peOps, gite] at h
              split at h
              · rename_i t ht
                obtain ⟨hw, h1, h2⟩ := body ht
                rw [hw]
                by_cases e : t = b
                · subst e
                  simp only [beq_self_eq_true, if_true]
                  have hK := h.1 rfl
                  refine hcall hc h1 fun vs hv => ?_
                  rw [hargs _ ht] at hv
                  exact (hK E vs hr rfl rfl hv).mono fun v w' ⟨E', r, k1, k2, k3, k4, k5⟩ => ⟨E', r, k1, k2, k3, k4, by rw [hdd]; exact k5⟩
                · have e' : t = !b := by cases t <;> cases b <;> simp at e ⊢
                  have hK := h.2 e'
                  subst e'
                  rw [if_neg (by cases b <;> simp)]
                  exact h2.mono fun T' O G ⟨e1, e2, e3⟩ => by rw [e1, e2, e3]; exact hK
              · rename_i x hx
                obtain ⟨hw, h2⟩ := body2 hx
                rw [hw, if_neg (by simp)]
                exact h2.mono fun T' O G ⟨e1, e2, e3⟩ => by rw [e1, e2, e3]; exact h
              · exact h.elim
        · cases htr
    · cases htr
end
end Go.VL
