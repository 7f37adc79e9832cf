/- Value logic, part 22b: operations that are reckoned whether they are done or not. -/
import Derived.Test.YtohccdodnpkpfaaVl22
set_option linter.unusedVariables false
set_option linter.unusedSimpArgs false
namespace Go.VL
open Go.RowKit

/-- The operation as it stands in the region. -/
def JO.er : JO → PO
  | .o d op => .o d op
  | .u op => .u op
  | .g ((j, b) :: _) d op => .g d j b op
  | .g [] d op => .o d op
  | .k ((i, w) :: _) d j a b => .g d i w (.pick (.t j) a b)
  | .k [] d j a b => .o d (.pick (.t j) a b)
  | .c d f args => .c d f args
  | .gc ((j, b) :: _) d f args => .gc d j b f args
  | .gc [] d f args => .c (some d) f args
  | .p ((j, b) :: _) d f args => .gp d j b f args
  | .p [] d f args => .p d f args
  | .q ((j, b) :: _) d f args => .gq d j b f args
  | .q [] d f args => .q d f args
  | .cv d x args => .cv d x args
  | .nx d x => .nx d x
/-- What has to hold that it is done. -/
def JO.pth : JO → Pth
  | .g z _ _ | .k z _ _ _ _ | .gc z _ _ _ | .p z _ _ _ | .q z _ _ _ => z
  | _ => []
def JO.wr : JO → Option Nat
  | .o d _ | .g _ d _ | .k _ d _ _ _ | .gc _ d _ _ | .p _ d _ _ | .q _ d _ _ | .nx d _ => some d
  | .u _ => none
  | .c d _ _ | .cv d _ _ => d
/-- The operands, each with what has to hold that it is looked at. -/
def JO.rds : JO → List (Nat × Pth)
  | .o _ op | .u op => (ODs.tmps op.ods).map fun n => (n, [])
  | .g z _ op => (ODs.tmps op.ods).map fun n => (n, z)
  | .k z _ j a b => (j, z) :: ((ODs.tmps [a]).map fun n => (n, (j, true) :: z)) ++ ((ODs.tmps [b]).map fun n => (n, (j, false) :: z))
  | .c _ _ as => (ODs.tmps as).map fun n => (n, [])
  | .gc z _ _ as | .p z _ _ as | .q z _ _ as => (ODs.tmps as).map fun n => (n, z)
  | .cv _ x as => (ODs.tmps (x :: as)).map fun n => (n, [])
  | .nx _ x => (ODs.tmps [x]).map fun n => (n, [])
def pathOf : List (Nat × Pth) → Nat → Pth
  | [], _ => []
  | (i, p) :: r, n => if n = i then p else pathOf r n
def subP (p q : Pth) : Bool := p.all fun x => q.contains x
def JO.kOK : JO → Bool
  | .g z _ op => z != [] && decide (op.kind ≤ 1)
  | _ => true
def JO.use : JO → List Nat
  | .k z _ j _ _ => j :: z.map (·.1)
  | x => x.pth.map (·.1)
/-- Each guard stands as it is told; what is looked at is there; a slot that was asked is not written again. -/
def jchk : List JO → List (Nat × Pth) → List Nat → Bool
  | [], _, _ => true
  | x :: os, ps, us =>
    (match x.pth with | [] => true | (j, _) :: r => pathOf ps j == r) && x.kOK && (x.rds.all fun r => subP (pathOf ps r.1) r.2) && (x.wr.all fun d => !us.contains d && !x.use.contains d) &&
    jchk os (match x.wr with | some d => (d, x.pth) :: ps | none => ps) (x.use ++ us)
def endP : List JO → List (Nat × Pth) → List (Nat × Pth)
  | [], ps => ps
  | x :: os, ps => endP os (match x.wr with | some d => (d, x.pth) :: ps | none => ps)
def jOK (ks : List Nat) (ops : List JO) : Bool := jchk ops [] [] && ks.all fun k => pathOf (endP ops []) k == []

theorem impl_to {T : Tmps} : ∀ {p : Pth} {X : Prop}, impl T p X → condP T p → X
  | [], X, h, _ => h
  | (j, b) :: r, X, h, ⟨h1, h2⟩ => by
    simp only [impl, h1] at h
    exact impl_to (h trivial) h2
theorem impl_bool {T : Tmps} {j : Nat} {b : Bool} {r : Pth} {X : Prop} (h : impl T ((j, b) :: r) X) : ∃ t, get T j = .v (.bool t) := by
  simp only [impl] at h
  split at h
  · rename_i t ht; exact ⟨t, ht⟩
  · exact h.elim
theorem isB_to {a : AV} (h : isB a) : ∃ t, a = .v (.bool t) := by
  unfold isB at h
  split at h
  · exact ⟨_, rfl⟩
  · exact h.elim

theorem subP_cond {T : Tmps} {p q : Pth} (h : subP p q = true) (hq : condP T q) : condP T p := by
  have mem : ∀ {q : Pth}, condP T q → ∀ x ∈ q, get T x.1 = .v (.bool x.2) := by
    intro q
    induction q with
    | nil => intro _ x hx; simp at hx
    | cons y q ih =>
      obtain ⟨j, b⟩ := y
      rintro ⟨h1, h2⟩ x hx
      rcases List.mem_cons.1 hx with rfl | hx
      · exact h1
      · exact ih h2 x hx
  have hall : ∀ x ∈ p, get T x.1 = .v (.bool x.2) := by
    intro x hx
    simp only [subP, List.all_eq_true, List.contains_eq_mem, decide_eq_true_eq] at h
    exact mem hq x (h x hx)
  clear h
  induction p with
  | nil => trivial
  | cons y p ih => exact ⟨hall y (by simp), ih fun x hx => hall x (by simp [hx])⟩

theorem condP_cons {T : Tmps} {d : Nat} {a : AV} : ∀ {p : Pth}, d ∉ p.map (·.1) → (condP ((d, a) :: T) p ↔ condP T p)
  | [], _ => Iff.rfl
  | (j, b) :: r, h => by
    simp only [List.map_cons, List.mem_cons, not_or] at h
    simp only [condP, get, if_neg (Ne.symm h.1), condP_cons h.2]

/-- The slots as they are reckoned, and as they are. -/
def Fit (T T1 : Tmps) (ps : List (Nat × Pth)) : Prop := ∀ n, (condP T (pathOf ps n) → get T1 n = get T n) ∧ (¬ condP T (pathOf ps n) → get T1 n = udf)

theorem Fit.cons {T T1 : Tmps} {ps : List (Nat × Pth)} {us : List Nat} (h : Fit T T1 ps) (hu : ∀ n, ∀ x ∈ pathOf ps n, x.1 ∈ us) {d : Nat} (hd : d ∉ us) {p : Pth} (hp : d ∉ p.map (·.1)) {a a1 : AV} {U : Tmps}
    (hU : ∀ n, n ≠ d → get ((d, a1) :: U) n = get T1 n) (h1 : condP T p → a1 = a) (h2 : ¬ condP T p → a1 = udf) : Fit ((d, a) :: T) ((d, a1) :: U) ((d, p) :: ps) := by
  intro n
  by_cases e : n = d
  · subst e
    simp only [pathOf, if_true, get, condP_cons hp]
    exact ⟨h1, h2⟩
  · have hn : d ∉ (pathOf ps n).map (·.1) := by
      intro hm
      obtain ⟨x, hx, rfl⟩ := List.mem_map.1 hm
      exact hd (hu n x hx)
    rw [hU n e]
    simp only [pathOf, if_neg e, condP_cons hn]
    have : get ((d, a) :: T) n = get T n := by simp only [get, if_neg e]
    rw [this]
    exact h n

theorem paths_cons {ps : List (Nat × Pth)} {us : List Nat} (hu : ∀ n, ∀ x ∈ pathOf ps n, x.1 ∈ us) {d : Nat} {p : Pth} {vs : List Nat} (hp : ∀ x ∈ p, x.1 ∈ vs) :
    ∀ n, ∀ x ∈ pathOf ((d, p) :: ps) n, x.1 ∈ vs ++ us := by
  intro n x hx
  simp only [pathOf] at hx
  split at hx
  · exact List.mem_append.2 (.inl (hp x hx))
  · exact List.mem_append.2 (.inr (hu n x hx))

theorem Fit.ods {T T1 : Tmps} {ps : List (Nat × Pth)} (h : Fit T T1 ps) {p : Pth} (hc : condP T p) {l : List OD} (hr : ∀ n ∈ ODs.tmps l, subP (pathOf ps n) p = true) : ∀ x ∈ l, OD.ev T1 x = OD.ev T x :=
  ods_fit fun n hn => (h n).1 (subP_cond (hr n hn) hc)

theorem Fit.wk {T T1 : Tmps} {ps : List (Nat × Pth)} (h : Fit T T1 ps) {ks : List Nat} (hk : ks.all (fun k => pathOf ps k == []) = true) : Wk T1 (fin ks T) := by
  intro n
  simp only [List.all_eq_true, beq_iff_eq] at hk
  by_cases hn : n ∈ ks
  · right
    have h1 := (h n).1 (by rw [hk n hn]; trivial)
    rw [h1]
    clear h1 hk
    unfold fin
    induction ks with
    | nil => simp at hn
    | cons k ks ih =>
      simp only [List.map_cons, get]
      split
      · rename_i e; rw [e]
      · rename_i e
        exact ih ((List.mem_cons.1 hn).resolve_left e)
  · left
    clear hk
    unfold fin
    induction ks with
    | nil => rfl
    | cons k ks ih =>
      simp only [List.mem_cons, not_or] at hn
      simp only [List.map_cons, get, if_neg hn.1]
      exact ih hn.2

section
variable {C : CallSem} {Q : Post}

/-- What is reckoned is what is done. -/
def WkQ (Q : Post) : Post := fun e T O G => ∃ T2, Wk T T2 ∧ Q e T2 O G

theorem evPick_true {a b : AV} : evPick (.v (.bool true)) a b = a := by
  unfold evPick
  split <;> simp_all

theorem evPick_false {a b : AV} : evPick (.v (.bool false)) a b = b := by
  unfold evPick
  split <;> simp_all

theorem pickJ_true {a b : AV} : pickJ (.v (.bool true)) a b = a := by
  unfold pickJ
  split <;> simp_all

theorem pickJ_false {a b : AV} : pickJ (.v (.bool false)) a b = b := by
  unfold pickJ
  split <;> simp_all

theorem peJ_sound (hC : CMono C) {ks : List Nat} : ∀ {ops : List JO} {ps : List (Nat × Pth)} {us : List Nat} {T T1 : Tmps} {O : List AO} {G : List Nat}, jchk ops ps us = true → (ks.all fun k => pathOf (endP ops ps) k == []) = true →
    (∀ n, ∀ x ∈ pathOf ps n, x.1 ∈ us) → Fit T T1 ps → peJ C ks Q ops T O G → peOps C (WkQ Q) (ops.map JO.er) T1 O G := by
  intro ops
  induction ops with
  | nil =>
    intro ps us T T1 O G _ hk hu hf h
    exact ⟨_, hf.wk hk, h⟩
  | cons x os ih =>
    intro ps us T T1 O G hj hk hu hf h
    simp only [jchk, Bool.and_eq_true] at hj
    obtain ⟨⟨⟨⟨hg, hkk⟩, hr⟩, hw⟩, hj⟩ := hj
    simp only [endP] at hk
    have hr' : ∀ r ∈ x.rds, subP (pathOf ps r.1) r.2 = true := by simpa using hr
    have hpu : ∀ y ∈ x.pth, y.1 ∈ x.use := by
      intro y hy
      cases x <;> simp only [JO.pth, JO.use] at hy ⊢ <;> first | (simp at hy; done) | exact List.mem_map.2 ⟨y, hy, rfl⟩ | exact List.mem_cons_of_mem _ (List.mem_map.2 ⟨y, hy, rfl⟩)
    -- a slot is written
    have wrt : ∀ {d : Nat} {a a1 : AV} {U : Tmps}, x.wr = some d → (∀ n, n ≠ d → get ((d, a1) :: U) n = get T1 n) → (condP T x.pth → a1 = a) → (¬ condP T x.pth → a1 = udf) → ∀ {O G}, peJ C ks Q os ((d, a) :: T) O G → peOps C (WkQ Q) (os.map JO.er) ((d, a1) :: U) O G := by
      intro d a a1 U hd hU h1 h2 O G hq
      rw [hd] at hw hj hk
      simp only [Option.all_some, Bool.and_eq_true, Bool.not_eq_true', List.contains_eq_mem, decide_eq_false_iff_not] at hw
      have hpd : d ∉ x.pth.map (·.1) := by
        intro hm
        obtain ⟨y, hy, rfl⟩ := List.mem_map.1 hm
        exact hw.2 (hpu y hy)
      exact ih hj hk (paths_cons hu hpu) (hf.cons hu hw.1 hpd hU h1 h2) hq
    have nowrt : x.wr = none → ∀ {O G}, peJ C ks Q os T O G → peOps C (WkQ Q) (os.map JO.er) T1 O G := by
      intro hd O G hq
      rw [hd] at hj hk
      exact ih hj hk (fun n y hy => List.mem_append.2 (.inr (hu n y hy))) hf hq
    -- the guard
    have gd : ∀ {j : Nat} {b : Bool} {r : Pth}, x.pth = (j, b) :: r → (∃ t, get T j = .v (.bool t)) → (∃ t, get T1 j = .v (.bool t) ∧ (condP T x.pth ↔ t = b)) ∨ (get T1 j = udf ∧ ¬ condP T x.pth) := by
      rintro j b r hp ⟨t, ht⟩
      rw [hp] at hg ⊢
      simp only [beq_iff_eq] at hg
      by_cases hc : condP T r
      · have e := (hf j).1 (by rw [hg]; exact hc)
        refine .inl ⟨t, e.trans ht, ?_⟩
        simp only [condP, ht]
        constructor
        · rintro ⟨h1, -⟩; injection h1 with h1; injection h1
        · rintro rfl; exact ⟨rfl, hc⟩
      · exact .inr ⟨(hf j).2 (by rw [hg]; exact hc), fun h => hc h.2⟩
    have wr2 : ∀ {j : Nat} {t : Bool} {d : Nat} {a1 : AV}, get T1 j = .v (.bool t) → ∀ n, n ≠ d → get ((d, a1) :: (j, .v (.bool t)) :: T1) n = get T1 n := by
      intro j t d a1 hj n hn
      simp only [get, if_neg hn]
      split
      · rename_i e; rw [e, hj]
      · rfl
    have wr1 : ∀ {d : Nat} {a1 : AV}, ∀ n, n ≠ d → get ((d, a1) :: T1) n = get T1 n := by
      intro d a1 n hn
      simp only [get, if_neg hn]
    have eop : ∀ {op : PK} {p : Pth}, condP T p → (∀ n ∈ ODs.tmps op.ods, subP (pathOf ps n) p = true) → ∀ O G, ev T1 O G op = ev T O G op := fun hc hr O G => ev_od (hf.ods hc hr) O G
    have eas : ∀ {l : List OD} {p : Pth}, condP T p → (∀ n ∈ ODs.tmps l, subP (pathOf ps n) p = true) → l.map (OD.ev T1) = l.map (OD.ev T) := fun hc hr => List.map_congr_left (hf.ods hc hr)
    have eas' : ∀ {l : List OD} {p : Pth}, condP T p → (∀ n ∈ ODs.tmps l, subP (pathOf ps n) p = true) → (l.map fun x => shut (OD.ev T1 x)) = l.map fun x => shut (OD.ev T x) := fun hc hr => List.map_congr_left fun x hx => by rw [hf.ods hc hr x hx]
    have hrm : ∀ {l : List OD} {p : Pth}, x.rds = (ODs.tmps l).map (fun n => (n, p)) → ∀ n ∈ ODs.tmps l, subP (pathOf ps n) p = true := by
      intro l p e n hn
      exact hr' (n, p) (by rw [e]; exact List.mem_map.2 ⟨n, hn, rfl⟩)
    have put1 : ∀ {d : Option Nat} {a : AV}, x.wr = d → x.pth = [] → ∀ {O G}, peJ C ks Q os (put d a T) O G → peOps C (WkQ Q) (os.map JO.er) (put d a T1) O G := by
      intro d a hd hp O G hq
      cases d with
      | none => exact nowrt hd hq
      | some d => exact wrt hd wr1 (fun _ => rfl) (fun hc => absurd (by rw [hp]; trivial) hc) hq
    cases x with
    | o d op =>
      have e := eop (p := []) trivial (hrm rfl) O G
      simp only [List.map_cons, JO.er, peOps, e]
      exact ⟨h.1, wrt rfl wr1 (fun _ => rfl) (fun hc => absurd trivial hc) h.2⟩
    | u op =>
      have e := eop (p := []) trivial (hrm rfl) O G
      simp only [List.map_cons, JO.er, peOps, e]
      exact ⟨h.1, nowrt rfl h.2⟩
    | g p d op =>
      obtain ⟨h1, h2⟩ := h
      have hkd : p ≠ [] → op.kind ≤ 1 := by
        intro hp
        simp only [JO.kOK, Bool.and_eq_true, decide_eq_true_eq] at hkk
        exact hkk.2
      have same : ∀ {O G}, op.kind ≤ 1 → (ev T O G op).ok → (ev T O G op).O = O ∧ (ev T O G op).G = G := by
        intro O G hk hok
        rcases Nat.lt_or_ge op.kind 1 with h | h
        · exact ⟨(ev_k0 (by omega) hok).1, (ev_k0 (by omega) hok).2.1⟩
        · exact ⟨(ev_k1 (by omega) hok).1, (ev_k1 (by omega) hok).2.1⟩
      cases p with
      | nil => simp [JO.kOK] at hkk
      | cons y r =>
        obtain ⟨j, b⟩ := y
        simp only [List.map_cons, JO.er, peOps, gite]
        rcases gd rfl (impl_bool h1) with ⟨t, k1, k2⟩ | ⟨k1, k2⟩
        · rw [k1]
          refine ⟨fun e => ?_, fun e => ?_⟩
          · have hc := k2.2 e
            have hok := impl_to h1 hc
            have e2 := eop (p := (j, b) :: r) hc (hrm rfl) O G
            obtain ⟨s1, s2⟩ := same (hkd (by simp)) hok
            rw [e2, s1, s2]
            subst e
            exact ⟨hok, wrt rfl (wr2 k1) (fun _ => rfl) (fun hn => absurd hc hn) h2⟩
          · have hc : ¬ condP T (JO.g ((j, b) :: r) d op).pth := fun hc => by have := k2.1 hc; subst this; cases t <;> simp at e
            subst e
            exact wrt rfl (wr2 k1) (fun h => absurd h hc) (fun _ => rfl) h2
        · rw [k1]
          exact wrt rfl wr1 (fun h => absurd h k2) (fun _ => rfl) h2
    | k p d j a b =>
      obtain ⟨h1, h2⟩ := h
      -- what is picked
      have pk : condP T p → ∃ t, get T1 j = .v (.bool t) ∧ evPick (.v (.bool t)) (a.ev T1) (b.ev T1) = pickJ (get T j) (a.ev T) (b.ev T) := by
        intro hc
        obtain ⟨t, ht⟩ := isB_to (impl_to h1 hc)
        have ej := (hf j).1 (subP_cond (hr' (j, p) (by simp [JO.rds])) hc)
        refine ⟨t, ej.trans ht, ?_⟩
        rw [ht]
        cases t with
        | true =>
          rw [evPick_true, pickJ_true]
          exact hf.ods (p := (j, true) :: p) ⟨ht, hc⟩ (l := [a]) (fun n hn => hr' (n, (j, true) :: p) (by simp only [JO.rds, List.cons_append, List.mem_cons, List.mem_append, List.mem_map]; exact .inr (.inl ⟨n, hn, rfl⟩))) a (by simp)
        | false =>
          rw [evPick_false, pickJ_false]
          exact hf.ods (p := (j, false) :: p) ⟨ht, hc⟩ (l := [b]) (fun n hn => hr' (n, (j, false) :: p) (by simp only [JO.rds, List.cons_append, List.mem_cons, List.mem_append, List.mem_map]; exact .inr (.inr ⟨n, hn, rfl⟩))) b (by simp)
      cases p with
      | nil =>
        obtain ⟨t, k1, k2⟩ := pk trivial
        simp only [List.map_cons, JO.er, peOps, ev, OD.ev, k1]
        refine ⟨⟨t, rfl⟩, wrt rfl wr1 (fun _ => k2) (fun hc => absurd trivial hc) h2⟩
      | cons y r =>
        obtain ⟨i, c⟩ := y
        simp only [List.map_cons, JO.er, peOps, gite]
        rcases gd rfl (impl_bool h1) with ⟨t, k1, k2⟩ | ⟨k1, k2⟩
        · rw [k1]
          refine ⟨fun e => ?_, fun e => ?_⟩
          · have hc := k2.2 e
            obtain ⟨t', q1, q2⟩ := pk hc
            simp only [ev, OD.ev, q1]
            subst e
            exact ⟨⟨t', rfl⟩, wrt rfl (wr2 k1) (fun _ => q2) (fun hn => absurd hc hn) h2⟩
          · have hc : ¬ condP T (JO.k ((i, c) :: r) d j a b).pth := fun hc => by have := k2.1 hc; subst this; cases t <;> simp at e
            subst e
            exact wrt rfl (wr2 k1) (fun h => absurd h hc) (fun _ => rfl) h2
        · rw [k1]
          exact wrt rfl wr1 (fun h => absurd h k2) (fun _ => rfl) h2
    | c d f args =>
      have e := eas (l := args) (p := []) trivial (hrm rfl)
      simp only [List.map_cons, JO.er, peOps, e]
      exact hC _ _ _ _ _ _ (fun r O G hq => put1 rfl rfl hq) h
    | gc p d f args =>
      obtain ⟨h1, h2⟩ := h
      cases p with
      | nil =>
        have e := eas (l := args) (p := []) trivial (hrm rfl)
        simp only [List.map_cons, JO.er, peOps, e]
        exact hC _ _ _ _ _ _ (fun r O G hq => put1 (d := some d) rfl rfl hq) h1
      | cons y r =>
        obtain ⟨j, b⟩ := y
        simp only [List.map_cons, JO.er, peOps, gite]
        rcases gd rfl (impl_bool h1) with ⟨t, k1, k2⟩ | ⟨k1, k2⟩
        · rw [k1]
          refine ⟨fun e => ?_, fun e => ?_⟩
          · have hc := k2.2 e
            rw [eas (p := (j, b) :: r) hc (hrm rfl)]
            subst e
            refine hC _ _ _ _ _ _ (fun r O G hq => ?_) (impl_to h1 hc)
            exact wrt rfl (wr2 k1) (fun _ => rfl) (fun hn => absurd hc hn) hq
          · have hc : ¬ condP T (JO.gc ((j, b) :: r) d f args).pth := fun hc => by have := k2.1 hc; subst this; cases t <;> simp at e
            subst e
            exact wrt rfl (wr2 k1) (fun h => absurd h hc) (fun _ => rfl) (h2 hc)
        · rw [k1]
          exact wrt rfl wr1 (fun h => absurd h k2) (fun _ => rfl) (h2 k2)
    | p p d f args =>
      obtain ⟨r, h1, h2⟩ := h
      cases p with
      | nil =>
        have e := eas' (l := args) (p := []) trivial (hrm rfl)
        simp only [List.map_cons, JO.er, peOps, e]
        exact ⟨r, h1, wrt rfl wr1 (fun _ => rfl) (fun hc => absurd trivial hc) h2⟩
      | cons y q =>
        obtain ⟨j, b⟩ := y
        simp only [List.map_cons, JO.er, peOps, gite]
        rcases gd rfl (impl_bool h1) with ⟨t, k1, k2⟩ | ⟨k1, k2⟩
        · rw [k1]
          refine ⟨fun e => ?_, fun e => ?_⟩
          · have hc := k2.2 e
            rw [eas' (p := (j, b) :: q) hc (hrm rfl)]
            subst e
            exact ⟨r, impl_to h1 hc, wrt rfl (wr2 k1) (fun _ => rfl) (fun hn => absurd hc hn) h2⟩
          · have hc : ¬ condP T (JO.p ((j, b) :: q) d f args).pth := fun hc => by have := k2.1 hc; subst this; cases t <;> simp at e
            subst e
            exact wrt rfl (wr2 k1) (fun h => absurd h hc) (fun _ => rfl) h2
        · rw [k1]
          exact wrt rfl wr1 (fun h => absurd h k2) (fun _ => rfl) h2
    | q p d f args =>
      obtain ⟨r, h1, h2⟩ := h
      cases p with
      | nil =>
        have e := eas (l := args) (p := []) trivial (hrm rfl)
        simp only [List.map_cons, JO.er, peOps, e]
        exact ⟨r, h1, wrt rfl wr1 (fun _ => rfl) (fun hc => absurd trivial hc) h2⟩
      | cons y q =>
        obtain ⟨j, b⟩ := y
        simp only [List.map_cons, JO.er, peOps, gite]
        rcases gd rfl (impl_bool h1) with ⟨t, k1, k2⟩ | ⟨k1, k2⟩
        · rw [k1]
          refine ⟨fun e => ?_, fun e => ?_⟩
          · have hc := k2.2 e
            rw [eas (p := (j, b) :: q) hc (hrm rfl)]
            subst e
            exact ⟨r, impl_to h1 hc, wrt rfl (wr2 k1) (fun _ => rfl) (fun hn => absurd hc hn) h2⟩
          · have hc : ¬ condP T (JO.q ((j, b) :: q) d f args).pth := fun hc => by have := k2.1 hc; subst this; cases t <;> simp at e
            subst e
            exact wrt rfl (wr2 k1) (fun h => absurd h hc) (fun _ => rfl) h2
        · rw [k1]
          exact wrt rfl wr1 (fun h => absurd h k2) (fun _ => rfl) h2
    | cv d x args =>
      have hall := hrm (l := x :: args) (p := []) rfl
      have e := eas (l := args) (p := []) trivial (fun n hn => hall n (by cases x <;> simp [ODs.tmps, hn]))
      have e1 := hf.ods (p := []) trivial hall x (by simp)
      simp only [List.map_cons, JO.er, peOps, e, e1]
      simp only [peJ] at h
      split at h
      · exact hC _ _ _ _ _ _ (fun r O G hq => put1 rfl rfl hq) h
      · exact h
    | nx d x =>
      have e1 := hf.ods (p := []) trivial (hrm (l := [x]) (p := []) rfl) x (by simp)
      simp only [List.map_cons, JO.er, peOps, e1]
      exact evNext_mono (fun r O G hq => put1 (d := some d) rfl rfl hq) h
end
end Go.VL
