/- Value logic, part 23: code, and functions. -/
import Derived.Test.YtohccdodnpkpfaaVl22b
set_option linter.unusedVariables false
set_option linter.unusedSimpArgs false
namespace Go.VL
open Go.RowKit

theorem RT.weaken {E : Env} {T T' : Tmps} {tm : Array Value} (h : RT E T tm) (w : Wk T T') : RT E T' tm := fun n => by
  rcases w n with e | e
  · rw [e]; exact .any _
  · rw [e]; exact h n

/-- The world after an order has been drawn. -/
def Env.drew (E : Env) : Env := { E with w := { E.w with drawn := E.w.drawn + 1 } }
theorem Env.drew_ext (E : Env) : Ext E E.drew where
  base_eq := rfl
  w0_eq := rfl
  safe := fun _ _ h => h
  old := fun _ _ h _ => h
  cell := fun _ _ _ _ _ => rfl
  objs := fun l o h => ⟨o, h, AO.le_refl o, .inr ⟨rfl, fun b _ => SameSize.of_eq rfl⟩⟩
  keys := KeysKept.of_blocks fun _ _ _ _ _ _ => rfl
  tok := fun t m h => ⟨m, h, Nat.le_refl _, fun _ => ⟨rfl, SameSize.of_eq rfl⟩⟩
theorem Env.drew_R {E : Env} (r : R E) : R E.drew :=
  ⟨⟨r.below.os, r.below.tape, r.below.output, r.below.size, r.below.block⟩, r.base_le, r.Flt, r.plOk, r.plInj, r.tkOk, r.tkInj, r.plTk, fun l o ho => (r.obj l o ho).mono E.drew_ext rfl fun _ _ => rfl⟩

section
variable {P : Program}

theorem impl_mono {T : Tmps} : ∀ {p : Pth} {X Y : Prop}, (X → Y) → impl T p X → impl T p Y
  | [], _, _, h, hx => h hx
  | (j, b) :: r, X, Y, h, hx => by
    simp only [impl] at hx ⊢
    split at hx
    · exact fun e => impl_mono h (hx e)
    · exact hx

theorem peJ_mono {C : CallSem} (hC : CMono C) {ks : List Nat} {Q Q' : Post} (h : ∀ e T O G, Q e T O G → Q' e T O G) : ∀ {ops : List JO} {T : Tmps} {O : List AO} {G : List Nat}, peJ C ks Q ops T O G → peJ C ks Q' ops T O G := by
  intro ops
  induction ops with
  | nil => intro T O G hp; exact h _ _ _ _ hp
  | cons x os ih =>
    intro T O G hp
    have hK : ∀ (d : Option Nat) (T : Tmps) (r : AV) (O : List AO) (G : List Nat), Kont C (peJ C ks Q os) d T r O G → Kont C (peJ C ks Q' os) d T r O G := fun d T r O G k => ih k
    cases x with
    | o d op => exact ⟨hp.1, ih hp.2⟩
    | u op => exact ⟨hp.1, ih hp.2⟩
    | g p d op => exact ⟨hp.1, ih hp.2⟩
    | k p d j a b => exact ⟨hp.1, ih hp.2⟩
    | c d f args => exact hC _ _ _ _ _ _ (hK _ _) hp
    | gc p d f args => exact ⟨impl_mono (hC _ _ _ _ _ _ (hK _ _)) hp.1, fun hn => ih (hp.2 hn)⟩
    | p p d f args => exact let ⟨r, h1, h2⟩ := hp; ⟨r, h1, ih h2⟩
    | q p d f args => exact let ⟨r, h1, h2⟩ := hp; ⟨r, h1, ih h2⟩
    | cv d x args =>
      simp only [peJ] at hp ⊢
      split at hp
      · exact hC _ _ _ _ _ _ (hK _ _) hp
      · exact hp
    | nx d x => exact evNext_mono (hK _ _) hp

theorem pe_mono {C : CallSem} (hC : CMono C) : ∀ {c : PCd} {Q Q' : Post} {T : Tmps} {O : List AO} {G : List Nat}, (∀ e T O G, Q e T O G → Q' e T O G) → pe C c Q T O G → pe C c Q' T O G := by
  intro c
  induction c with
  | skip => intro Q Q' T O G h hp; exact h _ _ _ _ hp
  | seq a b iha ihb =>
    intro Q Q' T O G h hp
    refine iha (fun e T O G hq => ?_) hp
    cases e <;> first | exact ihb h hq | exact h _ _ _ _ hq
  | reg ops =>
    intro Q Q' T O G h hp
    simp only [pe] at hp ⊢
    have : ∀ (ops : List PO) {T O G}, peOps C Q ops T O G → peOps C Q' ops T O G := by
      intro ops
      induction ops with
      | nil => intro T O G hp; exact h _ _ _ _ hp
      | cons po os ih => intro T O G hp; exact peOps_tail hC (fun T O G => ih) hp
    exact this ops hp
  | jreg ks ops => intro Q Q' T O G h hp; exact peJ_mono hC h hp
  | cond c a b iha ihb =>
    intro Q Q' T O G h hp
    simp only [pe, cite] at hp ⊢
    split at hp
    · exact ⟨fun e => iha h (hp.1 e), fun e => ihb h (hp.2 e)⟩
    · exact hp
  | block id a ih =>
    intro Q Q' T O G h hp
    refine ih (fun e T O G hq => ?_) hp
    cases e <;> try exact h _ _ _ _ hq
    simp only [BlkK] at hq ⊢
    split
    · rename_i e; rw [if_pos e] at hq; exact h _ _ _ _ hq
    · rename_i e; rw [if_neg e] at hq; exact h _ _ _ _ hq
  | loop a ih =>
    intro Q Q' T O G h hp
    obtain ⟨n, hp⟩ := hp
    refine ⟨n, ?_⟩
    induction n generalizing T O G with
    | zero => exact hp.elim
    | succ n ihn =>
      refine ih (fun e T O G hq => ?_) hp
      cases e <;> try exact h _ _ _ _ hq
      obtain ⟨T', hw, hq⟩ := hq
      exact ⟨T', hw, ihn hq⟩
  | exit id => intro Q Q' T O G h hp; exact h _ _ _ _ hp
  | ret => intro Q Q' T O G h hp; exact h _ _ _ _ hp

theorem nodupB_spec : ∀ {l : List Nat}, nodupB l = true → l.Nodup
  | [], _ => List.nodup_nil
  | x :: r, h => by
    simp only [nodupB, Bool.and_eq_true, Bool.not_eq_true', List.contains_eq_mem, decide_eq_false_iff_not] at h
    exact List.nodup_cons.2 ⟨h.1, nodupB_spec h.2⟩

theorem reg_sound {pol : List TypeId} {pur : List Nat} {N : Nat} {ops : Array Oper} {draw : Bool} {pos os : List PO} (hm : P.follows .mixedOrders = true) (htr : trOs P pol pur N ops ops.toList = some pos) {flag : Bool} (hreg : trReg flag ops draw pos = some os)
    {Q : Post} {E : Env} {T : Tmps} {a : Act} {D : List Deferred} (hR : R E) (hT : RT E T a.tmps) (hN : a.tmps.size = N) (hD : a.defers = D) (h : peOps (PSem P) Q os T E.O E.G) {id : Nat} :
    (Code.region id ops draw).wp P (fun e a' w' => Hold N D (QE Q e) E a' w') a E.w := by
  obtain ⟨hlen, hat⟩ := trOs_at htr
  have hq : peOps (PSem P) (QE Q) os T E.O E.G := pe_mono (c := .reg os) (PSem.cmono P) (fun e T O G hq => ⟨T, EqvT.refl T, hq⟩) h
  unfold trReg at hreg
  split at hreg
  · rename_i hd
    subst hd
    dsimp only at hreg
    split at hreg
    · rename_i hchk
      injection hreg with hreg
      simp only [Bool.and_eq_true, beq_iff_eq, List.all_eq_true, List.mem_range, List.contains_eq_mem, decide_eq_true_eq] at hchk
      obtain ⟨⟨⟨⟨⟨hb, hl⟩, hall⟩, hin⟩, hnd⟩, hp⟩ := hchk
      refine wp_region_any hm ?_
      have hmem : ∀ i, i ∈ ordGo (reaches ops.toList []) (pos.map (hardPO flag pos)) ops.size (List.range ops.size) 0 ↔ i < ops.size := fun i => ⟨fun h => hin i h, fun h => hall i h⟩
      refine any_sound htr (pos := pos.map (hardPO flag pos)) (by simp) (fun i po hi => by
        rw [List.getElem?_map, Option.map_eq_some_iff] at hi
        obtain ⟨p0, h1, rfl⟩ := hi
        exact ⟨p0, h1, hardPO_soft flag pos p0⟩) hb (E := E.drew) (T := T) ops.size (Array.replicate ops.size false) _ (nodupB_spec hnd) (by simp) (by omega) ?_ (fun i hi => (hmem i).1 hi) ?_ hp E.drew_ext (Env.drew_R hR) ?_ hN hD ?_
      · intro i hi
        rw [hmem]
        simp [Array.getD, hi]
      · intro j hj hnot
        exact absurd ((hmem j).2 hj) hnot
      · exact hT.mono E.drew_ext
      · rw [hreg]; exact hq
    · cases hreg
  · rename_i hd
    injection hreg with hreg
    subst hreg
    have hd' : draw = false := by cases draw <;> simp at hd ⊢
    subst hd'
    refine wp_region (wpOps_sound htr (Q := QE Q) (List.range ops.size) pos ?_ (Ext.refl E) hR hT hN hD hq)
    apply List.ext_getElem?
    intro i
    simp only [List.getElem?_map]
    rcases Nat.lt_or_ge i ops.size with hi | hi
    · rw [List.getElem?_range hi]
      obtain ⟨po, h1, _⟩ := hat i ops[i] (by rw [Array.getElem?_toList]; exact Array.getElem?_eq_getElem hi)
      simp [h1]
    · rw [List.getElem?_eq_none (by simpa using hi), List.getElem?_eq_none (by rw [hlen]; simpa using hi)]
      rfl

/-- The code as it stands. -/
def PCd.er : PCd → PCd
  | .seq a b => .seq a.er b.er
  | .jreg _ ops => .reg (ops.map JO.er)
  | .cond c a b => .cond c a.er b.er
  | .block i a => .block i a.er
  | .loop a => .loop a.er
  | c => c
def PCd.jok : PCd → Bool
  | .seq a b => a.jok && b.jok
  | .jreg ks ops => jOK ks ops
  | .cond _ a b => a.jok && b.jok
  | .block _ a => a.jok
  | .loop a => a.jok
  | _ => true

/-- Code does what its translation says. -/
theorem code_sound {pol : List TypeId} {pur : List Nat} {N : Nat} (hm : P.follows .mixedOrders = true) : ∀ {c : Code} {pc : PCd}, tr P pol pur N c = some pc.er → pc.jok = true → ∀ {Q : Post} {E : Env} {T : Tmps} {a : Act} {D : List Deferred},
    R E → RT E T a.tmps → a.tmps.size = N → a.defers = D → pe (PSem P) pc Q T E.O E.G → c.wp P (fun e a' w' => Hold N D (QE Q e) E a' w') a E.w := by
  intro c
  induction c with
  | skip =>
    intro pc h hj Q E T a D hR hT hN hD hp
    simp only [tr, Option.some.injEq] at h
    cases pc <;> simp only [PCd.er, reduceCtorEq] at h
    exact wp_skip ⟨E, T, rfl, hR, Ext.refl E, hT, hN, hD, T, EqvT.refl T, hp⟩
  | seq x y ihx ihy =>
    intro pc h hj Q E T a D hR hT hN hD hp
    simp only [tr] at h
    split at h
    · rename_i px py h1 h2
      injection h with h
      cases pc <;> simp only [PCd.er, reduceCtorEq] at h
      injection h with e1 e2
      subst e1; subst e2
      simp only [PCd.jok, Bool.and_eq_true] at hj
      refine wp_seq (wp_mono (ihx h1 hj.1 hR hT hN hD hp) ?_)
      rintro e a' w' ⟨E', T', rfl, k2, k3, k4, k5, k6, T2, k7, k8⟩
      cases e <;> try exact ⟨E', T', rfl, k2, k3, k4, k5, k6, T2, k7, k8⟩
      exact wp_mono (ihy h2 hj.2 k2 (k4.eqv k7) k5 k6 k8) fun e a' w' hh => hh.trans k3
    · cases h
  | region id ops draw =>
    intro pc h hj Q E T a D hR hT hN hD hp
    simp only [tr, Option.map_eq_some_iff, Option.bind_eq_some_iff] at h
    obtain ⟨os, ⟨pos, h1, h2⟩, h⟩ := h
    cases pc <;> simp only [PCd.er, reduceCtorEq] at h
    · injection h with h; subst h
      exact reg_sound hm h1 h2 hR hT hN hD hp
    · rename_i ks jops
      injection h with h; subst h
      simp only [PCd.jok, jOK, Bool.and_eq_true] at hj
      have hq : peOps (PSem P) (WkQ Q) (jops.map JO.er) T E.O E.G := peJ_sound (PSem.cmono P) hj.1 hj.2 (fun n x hx => by simp [pathOf] at hx) (fun n => ⟨fun _ => rfl, fun hn => absurd (by simp [pathOf, condP]) hn⟩) hp
      refine wp_mono (reg_sound hm h1 h2 hR hT hN hD hq (id := id)) ?_
      rintro e a' w' ⟨E', T', rfl, k2, k3, k4, k5, k6, T2, k7, T3, k8, k9⟩
      exact ⟨E', T3, rfl, k2, k3, (k4.eqv k7).weaken k8, k5, k6, T3, EqvT.refl T3, k9⟩
  | cond c x y ihx ihy =>
    intro pc h hj Q E T a D hR hT hN hD hp
    simp only [tr] at h
    split at h
    · rename_i pcc px py h0 h1 h2
      injection h with h
      cases pc <;> simp only [PCd.er, reduceCtorEq] at h
      injection h with e0 e1 e2
      subst e0; subst e1; subst e2
      simp only [PCd.jok, Bool.and_eq_true] at hj
      simp only [pe, cite] at hp
      split at hp
      · rename_i t ht
        have hc := trOD_rep h0 hT
        rw [ht] at hc
        have hc := rep_v hc
        exact wp_cond_split hc (fun e => ihx h1 hj.1 hR hT hN hD (hp.1 e)) (fun e => ihy h2 hj.2 hR hT hN hD (hp.2 e))
      · exact hp.elim
    · cases h
  | block id x ih =>
    intro pc h hj Q E T a D hR hT hN hD hp
    simp only [tr, Option.map_eq_some_iff] at h
    obtain ⟨px, h1, h⟩ := h
    cases pc <;> simp only [PCd.er, reduceCtorEq] at h
    injection h with e1 e2
    subst e1; subst e2
    simp only [PCd.jok] at hj
    refine wp_block (wp_mono (ih h1 hj hR hT hN hD hp) ?_)
    rintro e a' w' ⟨E', T', k1, k2, k3, k4, k5, k6, T2, k7, k8⟩
    cases e <;> try exact ⟨E', T', k1, k2, k3, k4, k5, k6, T2, k7, k8⟩
    simp only [Exit.inBlock]
    simp only [BlkK] at k8
    split
    · rename_i e; rw [if_pos e] at k8; exact ⟨E', T', k1, k2, k3, k4, k5, k6, T2, k7, k8⟩
    · rename_i e; rw [if_neg e] at k8; exact ⟨E', T', k1, k2, k3, k4, k5, k6, T2, k7, k8⟩
  | loop x ih =>
    intro pc h hj Q E T a D hR hT hN hD hp
    simp only [tr, Option.map_eq_some_iff] at h
    obtain ⟨px', h1, h⟩ := h
    cases pc <;> simp only [PCd.er, reduceCtorEq] at h
    rename_i px
    injection h with e1
    subst e1
    simp only [PCd.jok] at hj
    obtain ⟨n, hp⟩ := hp
    let Inv : Nat → Act → World → Prop := fun n a w => Hold N D (rounds (pe (PSem P) px) Q n) E a w
    have up : ∀ a w, (∃ n, Inv n a w) → ∃ n, Inv n a w ∧ ∀ m, Inv m a w → n ≤ m := by
      rintro a w ⟨n, hn⟩
      induction n using Nat.strongRecOn with
      | _ n ihn =>
        by_cases hx : ∃ m, m < n ∧ Inv m a w
        · obtain ⟨m, hm, hi⟩ := hx; exact ihn m hm hi
        · exact ⟨n, hn, fun m hm => Nat.le_of_not_lt fun hlt => hx ⟨m, hlt, hm⟩⟩
    let μ : Act → World → Nat := fun a w => open Classical in if hx : ∃ n, Inv n a w then (up a w hx).choose else 0
    have hμ : ∀ a w n, Inv n a w → Inv (μ a w) a w ∧ μ a w ≤ n := by
      intro a w n hn
      have hx : ∃ n, Inv n a w := ⟨n, hn⟩
      have hs := (up a w hx).choose_spec
      have e : μ a w = (up a w hx).choose := dif_pos hx
      rw [e]
      exact ⟨hs.1, hs.2 n hn⟩
    refine wp_loop (fun a w => ∃ n, Inv n a w) μ ⟨n, E, T, rfl, hR, Ext.refl E, hT, hN, hD, hp⟩ ?_
    rintro a w ⟨n, hn⟩
    have hI := (hμ a w n hn).1
    generalize hk : μ a w = k at hI
    obtain ⟨E', T', rfl, k2, k3, k4, k5, k6, k7⟩ := hI
    cases k with
    | zero => exact k7.elim
    | succ k =>
      refine wp_mono (ih h1 hj k2 k4 k5 k6 k7) ?_
      rintro e a' w' ⟨E2, T2, rfl, q2, q3, q4, q5, q6, T3, q7, q8⟩
      cases e <;> try exact ⟨E2, T2, rfl, q2, k3.trans q3, q4, q5, q6, T3, q7, q8⟩
      obtain ⟨T4, hw, hr⟩ := q8
      have hinv : Inv k a' E2.w := ⟨E2, T4, rfl, q2, k3.trans q3, (q4.eqv q7).weaken hw, q5, q6, hr⟩
      exact ⟨⟨k, hinv⟩, by have := (hμ a' E2.w k hinv).2; omega⟩
  | exit id =>
    intro pc h hj Q E T a D hR hT hN hD hp
    simp only [tr, Option.some.injEq] at h
    cases pc <;> simp only [PCd.er, reduceCtorEq] at h
    injection h with h; subst h
    exact wp_exit ⟨E, T, rfl, hR, Ext.refl E, hT, hN, hD, T, EqvT.refl T, hp⟩
  | ret =>
    intro pc h hj Q E T a D hR hT hN hD hp
    simp only [tr, Option.some.injEq] at h
    cases pc <;> simp only [PCd.er, reduceCtorEq] at h
    exact wp_ret ⟨E, T, rfl, hR, Ext.refl E, hT, hN, hD, T, EqvT.refl T, hp⟩
  | _ => intro pc h; simp [tr] at h

/-! ### Functions -/
def resV (T : Tmps) : List Nat → AV
  | [t] => get T t
  | ts => .tup (ts.map (get T))
def RetK (rs : List Nat) (K : AV → List AO → List Nat → Prop) : Post
  | .normal, T, O, G | .ret, T, O, G => K (resV T rs) O G
  | _, _, _, _ => False
/-- The slots at the start: the arguments. -/
def argT : Nat → List AV → Tmps
  | _, [] => []
  | i, a :: as => (i, a) :: argT (i + 1) as

theorem argT_rep {E : Env} : ∀ {args : List AV} {vs : List Value} (h : RepL E args vs) (i : Nat) (tm : Array Value), (∀ j, j < vs.length → tm.getD (i + j) undef = vs.getD j undef) → RT E (argT i args) tm
  | [], _, .nil, i, tm, _ => fun n => .any _
  | a :: as, v :: vs, .cons h hs, i, tm, ht => by
    intro n
    simp only [argT, get]
    split
    · rename_i e
      subst e
      have := ht 0 (by simp)
      simp only [Nat.add_zero, List.getD_cons_zero] at this
      rw [this]; exact h
    · exact argT_rep hs (i + 1) tm (fun j hj => by
        have := ht (j + 1) (by simpa using hj)
        rw [show i + 1 + j = i + (j + 1) by omega, this]; simp) n

def valV (tm : Array Value) : List Nat → Value
  | [t] => tm.getD t undef
  | ts => .tuple (ts.map fun t => tm.getD t undef).toArray

theorem results_run {fn : Func} {rs : List Nat} (hrs : fn.results.toList = rs.map ResultVar.tmp) (tm : Array Value) (w : World) : (results fn tm).run P w = .ok (valV tm rs) w := by
  have key : ∀ (l : List Nat), ((l.map ResultVar.tmp).mapM (fun r : ResultVar => (match r with
    | .tmp t => pure (tm.getD t undef)
    | .cell a t => do loadVar t (← asAddr (tm.getD a undef)) : Sem Value))).run P w = .ok (l.map fun t => tm.getD t undef) w := by
    intro l
    induction l with
    | nil => rfl
    | cons t l ih =>
      rw [List.map_cons, List.mapM_cons]
      simp only [Sem.run_bind, Sem.run_pure, Result.andThen_ok, ih, List.map_cons]
  have hr : fn.results = (rs.map ResultVar.tmp).toArray := Array.toList_inj.1 (by simpa using hrs)
  unfold results
  rw [hr, List.mapM_toArray]
  simp only [Sem.run_bind, Sem.run_map]
  refine (congrArg (fun x => (Result.andThen x fun a w' => Result.ok a.toArray w').andThen fun (a : Array Value) w' => Sem.run P (pure (if h : a.size = 1 then a[0] else Value.tuple a) : Sem Value) w') (key rs)).trans ?_
  match rs with
  | [] => rfl
  | [t] => rfl
  | t :: u :: r =>
    simp only [Result.andThen_ok, Sem.run_pure, valV]
    rw [dif_neg (by simp)]

theorem valV_rep {E : Env} {T : Tmps} {tm : Array Value} (h : RT E T tm) : ∀ rs, Rep E (resV T rs) (valV tm rs)
  | [] => .tup .nil
  | [t] => h t
  | t :: u :: r => by
    have : ∀ l : List Nat, RepL E (l.map (get T)) (l.map fun t => tm.getD t undef) := by
      intro l
      induction l with
      | nil => exact .nil
      | cons t l ih => exact .cons (h t) ih
    exact .tup (this (t :: u :: r))

theorem resV_eqv {T T' : Tmps} (h : EqvT T T') (rs : List Nat) : resV T rs = resV T' rs := by
  have hf : get T = get T' := funext h
  unfold resV
  rw [hf]

/-- A function does what its translation says. -/
theorem PCall.of_pe {pol : List TypeId} {pur : List Nat} {f : Nat} {fn : Func} {c : Code} {pc : PCd} {rs : List Nat} (hm : P.follows .mixedOrders = true) (hf : P.funcs[f]? = some fn) (hb : fn.body = some c) (hn : fn.name ≠ "runtime.NumGoroutine")
    (htr : tr P pol pur fn.ntmps c = some pc.er) (hj : pc.jok = true) (hrs : fn.results.toList = rs.map ResultVar.tmp) {args : List AV} (hl : args.length ≤ fn.ntmps) {O : List AO} {G : List Nat} {K : AV → List AO → List Nat → Prop}
    (h : pe (PSem P) pc (RetK rs K) (argT 0 args) O G) : PCall P f args O G K := by
  intro E vs hR hO hG hv
  subst hO; subst hG
  refine FnCall.of_calls hf (by rw [hb]; rfl) hn (calls_of_wp hf hb ?_)
  have hvl := hv.length
  have hT : RT E (argT 0 args) (vs.toArray ++ Array.replicate (fn.ntmps - vs.toArray.size) undef) := by
    refine argT_rep hv 0 _ fun j hj => ?_
    rw [Nat.zero_add, Array.getD_eq_getD_getElem?, Array.getElem?_append_left (by simpa using hj), List.getD_eq_getElem?_getD]
    simp
  refine wp_mono (code_sound hm htr hj hR hT (by simp; omega) rfl h) ?_
  rintro e a' w' ⟨E', T', rfl, k2, k3, k4, k5, k6, T2, k7, k8⟩
  have fin : K (resV T2 rs) E'.O E'.G → a'.defers = [] ∧ ∃ v, (results fn a'.tmps).run P E'.w = .ok v E'.w ∧ ∃ E'' r, E''.w = E'.w ∧ R E'' ∧ Ext E E'' ∧ Rep E'' r v ∧ K r E''.O E''.G :=
    fun hk => ⟨k6, _, results_run hrs _ _, E', resV T2 rs, rfl, k2, k3, resV_eqv k7 rs ▸ valV_rep k4 rs, hk⟩
  cases e with
  | normal => exact fin k8
  | ret => exact fin k8
  | _ => exact k8.elim
end
end Go.VL
