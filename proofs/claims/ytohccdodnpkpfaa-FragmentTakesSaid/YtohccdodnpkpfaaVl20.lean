/- Value logic, part 20: an operation as a step; two that may change places. -/
import Derived.Test.YtohccdodnpkpfaaVl19b
set_option linter.unusedVariables false
set_option linter.unusedSimpArgs false
namespace Go.VL
open Go.RowKit

/-- A step that is no call. -/
inductive Stp (C : CallSem) : PO → Tmps → List AO → List Nat → Tmps → List AO → List Nat → Prop
  | o {d : Nat} {op : PK} {T : Tmps} {O : List AO} {G : List Nat} : (ev T O G op).ok → Stp C (.o d op) T O G ((d, (ev T O G op).a) :: T) (ev T O G op).O (ev T O G op).G
  | u {op : PK} {T : Tmps} {O : List AO} {G : List Nat} : (ev T O G op).ok → Stp C (.u op) T O G T (ev T O G op).O (ev T O G op).G
  | g {d j : Nat} {b : Bool} {op : PK} {T : Tmps} {O : List AO} {G : List Nat} : get T j = .v (.bool b) → (ev T O G op).ok → Stp C (.g d j b op) T O G ((d, (ev T O G op).a) :: (j, .v (.bool b)) :: T) (ev T O G op).O (ev T O G op).G
  | gn {d j : Nat} {b : Bool} {op : PK} {T : Tmps} {O : List AO} {G : List Nat} : get T j = .v (.bool !b) → Stp C (.g d j b op) T O G ((d, udf) :: (j, .v (.bool !b)) :: T) O G
  | gu {x : Array Value} {d j : Nat} {b : Bool} {op : PK} {T : Tmps} {O : List AO} {G : List Nat} : get T j = .v (.tuple x) → Stp C (.g d j b op) T O G ((d, udf) :: T) O G
  | p {d f : Nat} {args : List OD} {r : AV} {T : Tmps} {O : List AO} {G : List Nat} : C.p f (args.map fun x => shut (OD.ev T x)) r → Stp C (.p d f args) T O G ((d, r) :: T) O G
  | gp {d j f : Nat} {b : Bool} {args : List OD} {r : AV} {T : Tmps} {O : List AO} {G : List Nat} : get T j = .v (.bool b) → C.p f (args.map fun x => shut (OD.ev T x)) r → Stp C (.gp d j b f args) T O G ((d, r) :: (j, .v (.bool b)) :: T) O G
  | gpn {d j f : Nat} {b : Bool} {args : List OD} {T : Tmps} {O : List AO} {G : List Nat} : get T j = .v (.bool !b) → Stp C (.gp d j b f args) T O G ((d, udf) :: (j, .v (.bool !b)) :: T) O G
  | gpu {x : Array Value} {d j f : Nat} {b : Bool} {args : List OD} {T : Tmps} {O : List AO} {G : List Nat} : get T j = .v (.tuple x) → Stp C (.gp d j b f args) T O G ((d, udf) :: T) O G
  | q {d f : Nat} {args : List OD} {r : AV} {T : Tmps} {O : List AO} {G : List Nat} : C.q f (args.map (OD.ev T)) O G r → Stp C (.q d f args) T O G ((d, r) :: T) O G
  | gq {d j f : Nat} {b : Bool} {args : List OD} {r : AV} {T : Tmps} {O : List AO} {G : List Nat} : get T j = .v (.bool b) → C.q f (args.map (OD.ev T)) O G r → Stp C (.gq d j b f args) T O G ((d, r) :: (j, .v (.bool b)) :: T) O G
  | gqn {d j f : Nat} {b : Bool} {args : List OD} {T : Tmps} {O : List AO} {G : List Nat} : get T j = .v (.bool !b) → Stp C (.gq d j b f args) T O G ((d, udf) :: (j, .v (.bool !b)) :: T) O G
  | gqu {x : Array Value} {d j f : Nat} {b : Bool} {args : List OD} {T : Tmps} {O : List AO} {G : List Nat} : get T j = .v (.tuple x) → Stp C (.gq d j b f args) T O G ((d, udf) :: T) O G

section
variable {C : CallSem} {Q : Post}

theorem peOps_stp {po : PO} (hc : po.isCall = false) {os : List PO} {T : Tmps} {O : List AO} {G : List Nat} :
    peOps C Q (po :: os) T O G ↔ ∃ T' O' G', Stp C po T O G T' O' G' ∧ peOps C Q os T' O' G' := by
  constructor
  · intro h
    cases po with
    | o d op => exact ⟨_, _, _, .o h.1, h.2⟩
    | u op => exact ⟨_, _, _, .u h.1, h.2⟩
    | g d j b op =>
      simp only [peOps, gite] at h
      split at h
      · rename_i t ht
        by_cases e : t = b
        · subst e
          exact ⟨_, _, _, .g ht (h.1 rfl).1, (h.1 rfl).2⟩
        · have e' : t = !b := by cases t <;> cases b <;> simp at e ⊢
          subst e'
          exact ⟨_, _, _, .gn ht, h.2 rfl⟩
      · rename_i x hx
        exact ⟨_, _, _, .gu hx, h⟩
      · exact h.elim
    | p d f args =>
      obtain ⟨r, h1, h2⟩ := h
      exact ⟨_, _, _, .p h1, h2⟩
    | gp d j b f args =>
      simp only [peOps, gite] at h
      split at h
      · rename_i t ht
        by_cases e : t = b
        · subst e
          obtain ⟨r, h1, h2⟩ := h.1 rfl
          exact ⟨_, _, _, .gp ht h1, h2⟩
        · have e' : t = !b := by cases t <;> cases b <;> simp at e ⊢
          subst e'
          exact ⟨_, _, _, .gpn ht, h.2 rfl⟩
      · rename_i x hx
        exact ⟨_, _, _, .gpu hx, h⟩
      · exact h.elim
    | q d f args =>
      obtain ⟨r, h1, h2⟩ := h
      exact ⟨_, _, _, .q h1, h2⟩
    | gq d j b f args =>
      simp only [peOps, gite] at h
      split at h
      · rename_i t ht
        by_cases e : t = b
        · subst e
          obtain ⟨r, h1, h2⟩ := h.1 rfl
          exact ⟨_, _, _, .gq ht h1, h2⟩
        · have e' : t = !b := by cases t <;> cases b <;> simp at e ⊢
          subst e'
          exact ⟨_, _, _, .gqn ht, h.2 rfl⟩
      · rename_i x hx
        exact ⟨_, _, _, .gqu hx, h⟩
      · exact h.elim
    | _ => simp [PO.isCall] at hc
  · rintro ⟨T', O', G', h1, h2⟩
    cases h1 with
    | o h => exact ⟨h, h2⟩
    | u h => exact ⟨h, h2⟩
    | g ht h => simp only [peOps, ht, if_true]; exact ⟨h, h2⟩
    | gn ht => simp only [peOps, ht, gite]; exact ⟨fun e => by rename_i b _; cases b <;> simp at e, fun _ => h2⟩
    | gu ht => simp only [peOps, ht]; exact h2
    | p h => exact ⟨_, h, h2⟩
    | gp ht h => simp only [peOps, ht, if_true]; exact ⟨_, h, h2⟩
    | gpn ht => simp only [peOps, ht, gite]; exact ⟨fun e => by rename_i b _; cases b <;> simp at e, fun _ => h2⟩
    | gpu ht => simp only [peOps, ht]; exact h2
    | q h => exact ⟨_, h, h2⟩
    | gq ht h => simp only [peOps, ht, if_true]; exact ⟨_, h, h2⟩
    | gqn ht => simp only [peOps, ht, gite]; exact ⟨fun e => by rename_i b _; cases b <;> simp at e, fun _ => h2⟩
    | gqu ht => simp only [peOps, ht]; exact h2

/-- The same slot is written, with the same value; the others are left. -/
def Agr (po : PO) (T' T2 T2' : Tmps) : Prop := ∀ n, get T2' n = if po.wr = some n then get T' n else get T2 n

theorem Stp.agr {po : PO} {T T' : Tmps} {O O' : List AO} {G G' : List Nat} (h : Stp C po T O G T' O' G') : Agr po T' T T' := by
  have key : ∀ {d : Nat} {a : AV} {u : Tmps}, po.wr = some d → (∀ n, n ≠ d → get ((d, a) :: u) n = get T n) → Agr po ((d, a) :: u) T ((d, a) :: u) := by
    intro d a u hw hu n
    rw [hw]
    split
    · rfl
    · rename_i e; exact hu n (fun e' => e (by rw [e']))
  cases h with
  | o h => exact key rfl fun n hn => by simp only [get, if_neg hn]
  | u h => exact fun n => by simp [PO.wr]
  | g ht h =>
    exact key rfl fun n hn => by
      simp only [get, if_neg hn]
      split
      · rename_i e; rw [e, ht]
      · rfl
  | gn ht =>
    exact key rfl fun n hn => by
      simp only [get, if_neg hn]
      split
      · rename_i e; rw [e, ht]
      · rfl
  | gu ht => exact key rfl fun n hn => by simp only [get, if_neg hn]
  | p h => exact key rfl fun n hn => by simp only [get, if_neg hn]
  | gp ht h =>
    exact key rfl fun n hn => by
      simp only [get, if_neg hn]
      split
      · rename_i e; rw [e, ht]
      · rfl
  | gpn ht =>
    exact key rfl fun n hn => by
      simp only [get, if_neg hn]
      split
      · rename_i e; rw [e, ht]
      · rfl
  | gpu ht => exact key rfl fun n hn => by simp only [get, if_neg hn]
  | q h => exact key rfl fun n hn => by simp only [get, if_neg hn]
  | gq ht h =>
    exact key rfl fun n hn => by
      simp only [get, if_neg hn]
      split
      · rename_i e; rw [e, ht]
      · rfl
  | gqn ht =>
    exact key rfl fun n hn => by
      simp only [get, if_neg hn]
      split
      · rename_i e; rw [e, ht]
      · rfl
  | gqu ht => exact key rfl fun n hn => by simp only [get, if_neg hn]

/-- How a step's memory may be another one. -/
def Memo (po : PO) (T : Tmps) (O O' : List AO) (G G' : List Nat) (O2 : List AO) (G2 : List Nat) (O2' : List AO) (G2' : List Nat) : Prop :=
  (O2 = O ∧ G2 = G ∧ O2' = O' ∧ G2' = G') ∨ (O2' = O2 ∧ G2' = G2 ∧ po.kind ≠ 6 ∧ ∀ op, po.pk = some op → (ev T O G op).ok → (ev T O2 G2 op).ok ∧ (ev T O2 G2 op).a = (ev T O G op).a ∧ (ev T O2 G2 op).O = O2 ∧ (ev T O2 G2 op).G = G2)

theorem agr_set {po : PO} {d : Nat} {a : AV} {u T T2 : Tmps} (hw : po.wr = some d) (hu : ∀ n, n ≠ d → get ((d, a) :: u) n = get T2 n) : Agr po ((d, a) :: T) T2 ((d, a) :: u) := by
  intro n
  rw [hw]
  split
  · rename_i e; injection e with e; subst e; simp [get]
  · rename_i e; exact hu n (fun e' => e (by rw [e']))

theorem Stp.redo {po : PO} {T T' T2 : Tmps} {O O' O2 O2' : List AO} {G G' G2 G2' : List Nat} (h : Stp C po T O G T' O' G') (hf : ∀ n ∈ po.rd, get T n = get T2 n) (hm : Memo po T O O' G G' O2 G2 O2' G2') :
    ∃ T2', Stp C po T2 O2 G2 T2' O2' G2' ∧ Agr po T' T2 T2' := by
  have hev : ∀ {op : PK}, po.pk = some op → (∀ n ∈ ODs.tmps op.ods, get T n = get T2 n) → (ev T O G op).ok → O' = (ev T O G op).O → G' = (ev T O G op).G →
      (ev T2 O2 G2 op).ok ∧ (ev T2 O2 G2 op).a = (ev T O G op).a ∧ (ev T2 O2 G2 op).O = O2' ∧ (ev T2 O2 G2 op).G = G2' := by
    intro op hp hf hok hO hG
    have e : ∀ O G, ev T O G op = ev T2 O G op := fun O G => ev_od (ods_fit hf) O G
    rcases hm with ⟨rfl, rfl, rfl, rfl⟩ | ⟨rfl, rfl, -, hk⟩
    · rw [← e]; exact ⟨hok, rfl, hO.symm, hG.symm⟩
    · rw [← e]; exact hk op hp hok
  have hargs' : ∀ {l : List OD}, (∀ n ∈ ODs.tmps l, get T n = get T2 n) → l.map (OD.ev T) = l.map (OD.ev T2) :=
    fun hf => List.map_congr_left fun x hx => ods_fit hf x hx
  have hargs : ∀ {l : List OD}, (∀ n ∈ ODs.tmps l, get T n = get T2 n) → (l.map fun x => shut (OD.ev T x)) = l.map fun x => shut (OD.ev T2 x) :=
    fun hf => List.map_congr_left fun x hx => by rw [ods_fit hf x hx]
  cases h with
  | @o d op _ _ _ h =>
    obtain ⟨k1, k2, k3, k4⟩ := hev rfl hf h rfl rfl
    have := Stp.o (C := C) (d := d) k1
    rw [k2, k3, k4] at this
    exact ⟨_, this, agr_set rfl fun n hn => by simp only [get, if_neg hn]⟩
  | @u op _ _ _ h =>
    obtain ⟨k1, k2, k3, k4⟩ := hev rfl hf h rfl rfl
    have := Stp.u (C := C) k1
    rw [k3, k4] at this
    exact ⟨_, this, fun n => by simp [PO.wr]⟩
  | @g d j b op _ _ _ ht h =>
    simp only [PO.rd, List.mem_cons, forall_eq_or_imp] at hf
    obtain ⟨k1, k2, k3, k4⟩ := hev rfl hf.2 h rfl rfl
    have ht2 := hf.1.symm.trans ht
    have := Stp.g (C := C) (d := d) ht2 k1
    rw [k2, k3, k4] at this
    exact ⟨_, this, agr_set rfl fun n hn => by
      simp only [get, if_neg hn]
      split
      · rename_i e; rw [e, ht2]
      · rfl⟩
  | @gn d j b op _ _ _ ht =>
    simp only [PO.rd, List.mem_cons, forall_eq_or_imp] at hf
    have ht2 := hf.1.symm.trans ht
    have hO : O2' = O2 ∧ G2' = G2 := by
      rcases hm with ⟨rfl, rfl, rfl, rfl⟩ | ⟨rfl, rfl, -, hk⟩ <;> exact ⟨rfl, rfl⟩
    rw [hO.1, hO.2]
    exact ⟨_, .gn ht2, agr_set rfl fun n hn => by
      simp only [get, if_neg hn]
      split
      · rename_i e; rw [e, ht2]
      · rfl⟩
  | @gu x d j b op _ _ _ ht =>
    simp only [PO.rd, List.mem_cons, forall_eq_or_imp] at hf
    have ht2 := hf.1.symm.trans ht
    have hO : O2' = O2 ∧ G2' = G2 := by
      rcases hm with ⟨rfl, rfl, rfl, rfl⟩ | ⟨rfl, rfl, -, hk⟩ <;> exact ⟨rfl, rfl⟩
    rw [hO.1, hO.2]
    exact ⟨_, .gu ht2, agr_set rfl fun n hn => by simp only [get, if_neg hn]⟩
  | @p d f args r _ _ _ h =>
    have hO : O2' = O2 ∧ G2' = G2 := by
      rcases hm with ⟨rfl, rfl, rfl, rfl⟩ | ⟨rfl, rfl, -, hk⟩ <;> exact ⟨rfl, rfl⟩
    rw [hO.1, hO.2]
    rw [hargs hf] at h
    exact ⟨_, .p h, agr_set rfl fun n hn => by simp only [get, if_neg hn]⟩
  | @gp d j f b args r _ _ _ ht h =>
    simp only [PO.rd, List.mem_cons, forall_eq_or_imp] at hf
    have ht2 := hf.1.symm.trans ht
    have hO : O2' = O2 ∧ G2' = G2 := by
      rcases hm with ⟨rfl, rfl, rfl, rfl⟩ | ⟨rfl, rfl, -, hk⟩ <;> exact ⟨rfl, rfl⟩
    rw [hO.1, hO.2]
    rw [hargs hf.2] at h
    exact ⟨_, .gp ht2 h, agr_set rfl fun n hn => by
      simp only [get, if_neg hn]
      split
      · rename_i e; rw [e, ht2]
      · rfl⟩
  | @gpn d j f b args _ _ _ ht =>
    simp only [PO.rd, List.mem_cons, forall_eq_or_imp] at hf
    have ht2 := hf.1.symm.trans ht
    have hO : O2' = O2 ∧ G2' = G2 := by
      rcases hm with ⟨rfl, rfl, rfl, rfl⟩ | ⟨rfl, rfl, -, hk⟩ <;> exact ⟨rfl, rfl⟩
    rw [hO.1, hO.2]
    exact ⟨_, .gpn ht2, agr_set rfl fun n hn => by
      simp only [get, if_neg hn]
      split
      · rename_i e; rw [e, ht2]
      · rfl⟩
  | @gpu x d j f b args _ _ _ ht =>
    simp only [PO.rd, List.mem_cons, forall_eq_or_imp] at hf
    have ht2 := hf.1.symm.trans ht
    have hO : O2' = O2 ∧ G2' = G2 := by
      rcases hm with ⟨rfl, rfl, rfl, rfl⟩ | ⟨rfl, rfl, -, hk⟩ <;> exact ⟨rfl, rfl⟩
    rw [hO.1, hO.2]
    exact ⟨_, .gpu ht2, agr_set rfl fun n hn => by simp only [get, if_neg hn]⟩
  | @q d f args r _ _ _ h =>
    rcases hm with ⟨rfl, rfl, rfl, rfl⟩ | ⟨rfl, rfl, hk, -⟩
    · rw [hargs' hf] at h
      exact ⟨_, .q h, agr_set rfl fun n hn => by simp only [get, if_neg hn]⟩
    · exact absurd rfl hk
  | @gq d j f b args r _ _ _ ht h =>
    simp only [PO.rd, List.mem_cons, forall_eq_or_imp] at hf
    have ht2 := hf.1.symm.trans ht
    rcases hm with ⟨rfl, rfl, rfl, rfl⟩ | ⟨rfl, rfl, hk, -⟩
    · rw [hargs' hf.2] at h
      exact ⟨_, .gq ht2 h, agr_set rfl fun n hn => by
        simp only [get, if_neg hn]
        split
        · rename_i e; rw [e, ht2]
        · rfl⟩
    · exact absurd rfl hk
  | @gqn d j f b args _ _ _ ht =>
    simp only [PO.rd, List.mem_cons, forall_eq_or_imp] at hf
    have ht2 := hf.1.symm.trans ht
    have hO : O2' = O2 ∧ G2' = G2 := by
      rcases hm with ⟨rfl, rfl, rfl, rfl⟩ | ⟨rfl, rfl, -, hk⟩ <;> exact ⟨rfl, rfl⟩
    rw [hO.1, hO.2]
    exact ⟨_, .gqn ht2, agr_set rfl fun n hn => by
      simp only [get, if_neg hn]
      split
      · rename_i e; rw [e, ht2]
      · rfl⟩
  | @gqu x d j f b args _ _ _ ht =>
    simp only [PO.rd, List.mem_cons, forall_eq_or_imp] at hf
    have ht2 := hf.1.symm.trans ht
    have hO : O2' = O2 ∧ G2' = G2 := by
      rcases hm with ⟨rfl, rfl, rfl, rfl⟩ | ⟨rfl, rfl, -, hk⟩ <;> exact ⟨rfl, rfl⟩
    rw [hO.1, hO.2]
    exact ⟨_, .gqu ht2, agr_set rfl fun n hn => by simp only [get, if_neg hn]⟩

/-- What a step that has an operation does to memory: what the operation does, or nothing. -/
theorem Stp.mem {po : PO} {T T' : Tmps} {O O' : List AO} {G G' : List Nat} (h : Stp C po T O G T' O' G') : (O' = O ∧ G' = G) ∨ ∃ op, po.pk = some op ∧ po.kind = op.kind ∧ (ev T O G op).ok ∧ O' = (ev T O G op).O ∧ G' = (ev T O G op).G := by
  cases h with
  | o h => exact .inr ⟨_, rfl, rfl, h, rfl, rfl⟩
  | u h => exact .inr ⟨_, rfl, rfl, h, rfl, rfl⟩
  | g _ h => exact .inr ⟨_, rfl, rfl, h, rfl, rfl⟩
  | gn _ => exact .inl ⟨rfl, rfl⟩
  | gu _ => exact .inl ⟨rfl, rfl⟩
  | p _ => exact .inl ⟨rfl, rfl⟩
  | gp _ _ => exact .inl ⟨rfl, rfl⟩
  | gpn _ => exact .inl ⟨rfl, rfl⟩
  | gpu _ => exact .inl ⟨rfl, rfl⟩
  | q _ => exact .inl ⟨rfl, rfl⟩
  | gq _ _ => exact .inl ⟨rfl, rfl⟩
  | gqn _ => exact .inl ⟨rfl, rfl⟩
  | gqu _ => exact .inl ⟨rfl, rfl⟩

theorem PO.pk_kind {po : PO} {op : PK} (h : po.pk = some op) : po.kind = op.kind := by
  cases po <;> simp [PO.pk] at h <;> subst h <;> rfl

theorem PK.kind_ne6 (op : PK) : op.kind ≠ 6 := by cases op <;> simp [PK.kind]

theorem Stp.still {po : PO} {T T' : Tmps} {O O' : List AO} {G G' : List Nat} (h : Stp C po T O G T' O' G') (hk : po.kind ≤ 1 ∨ po.kind = 6) : O' = O ∧ G' = G := by
  rcases h.mem with h | ⟨op, hp, hkk, hok, rfl, rfl⟩
  · exact h
  · have h6 := op.kind_ne6
    rcases Nat.lt_or_ge op.kind 1 with h | h
    · have := ev_k0 (by omega) hok; exact ⟨this.1, this.2.1⟩
    · have := ev_k1 (by omega) hok; exact ⟨this.1, this.2.1⟩

theorem appF_O {T : Tmps} {O : List AO} {G : List Nat} {op : PK} (hk : op.kind = 5) (hok : (ev T O G op).ok) : (ev T O G op).O = O := by
  cases op <;> simp [PK.kind] at hk
  case appF sz b x y =>
    dsimp only [ev, Rs.chk] at hok ⊢
    obtain ⟨h1, hok⟩ := hok
    unfold evApp at hok ⊢
    split at hok
    · exact hok.elim
    · cases hx : x.ev T <;> rw [hx] at h1 hok <;> simp only [AV.isSl] at h1 <;> try (cases h1; done)
      rename_i xs t
      cases t <;> first | rfl | exact hok.elim

theorem cm_slots {x i : PO} (h : cm x i = true) : x.isNx = false ∧ i.isNx = false ∧ (∀ d, x.wr = some d → d ∉ i.rd ∧ i.wr ≠ some d) ∧ (∀ d, i.wr = some d → d ∉ x.rd) ∧
    (x.kind = 0 ∨ (i.kind = 0 ∧ x.isCall = false) ∨ (x.kind = 1 ∧ i.kind = 1) ∨ (x.kind = 1 ∧ i.kind = 2) ∨ ((x.kind = 1 ∨ x.kind = 6) ∧ (i.kind = 1 ∨ i.kind = 6)) ∨ (x.kind = 1 ∧ i.kind = 4 ∧ relP x i = true) ∨ (x.kind = 1 ∧ i.kind = 5) ∨ relM x i = true) := by
  simp only [cm, Bool.and_eq_true, Bool.not_eq_true', Bool.or_eq_true, beq_iff_eq, decide_eq_true_eq, Option.all_eq_true, List.contains_eq_mem, decide_eq_false_iff_not, bne_iff_ne, ne_eq] at h
  obtain ⟨⟨⟨⟨h1, h2⟩, h3⟩, h4⟩, h5⟩ := h
  refine ⟨h1, h2, h3, h4, ?_⟩
  rcases h5 with ((((((h5 | h5) | h5) | h5) | h5) | h5) | h5) | h5
  · exact .inl h5
  · exact .inr (.inl h5)
  · exact .inr (.inr (.inl h5))
  · exact .inr (.inr (.inr (.inl h5)))
  · exact .inr (.inr (.inr (.inr (.inl h5))))
  · exact .inr (.inr (.inr (.inr (.inr (.inl ⟨h5.1.1, h5.1.2, h5.2⟩)))))
  · exact .inr (.inr (.inr (.inr (.inr (.inr (.inl h5))))))
  · exact .inr (.inr (.inr (.inr (.inr (.inr (.inr h5))))))

theorem kind_call {po : PO} (h : po.isCall = true) : po.kind = 3 := by cases po <;> simp [PO.isCall] at h <;> rfl

theorem relM_cases {x i : PO} (h : relM x i = true) : ∃ d ks z m k d', x = .o d (.look ks z false m k) ∧ i = .o d' (.ment ks z m k) := by
  unfold relM at h
  split at h
  · rename_i d ks z m k d' ks' z' m' k'
    simp only [Bool.and_eq_true, beq_iff_eq] at h
    obtain ⟨⟨⟨rfl, h2⟩, h3⟩, h4⟩ := h
    have e2 := zEq1_eq h2
    have e3 := same_eq (T := []) h3
    have e4 := same_eq (T := []) h4
    subst e2; subst e3; subst e4
    exact ⟨d, ks, z, m, k, d', rfl, rfl⟩
  · cases h

/-- Two steps that are no calls change places. -/
theorem Stp.swap {x i : PO} (h : cm x i = true) {T T1 T2 : Tmps} {O O1 O2 : List AO} {G G1 G2 : List Nat} (hx : Stp C x T O G T1 O1 G1) (hi : Stp C i T1 O1 G1 T2 O2 G2) :
    ∃ T1' O1' G1' T2', Stp C i T O G T1' O1' G1' ∧ Stp C x T1' O1' G1' T2' O2 G2 ∧ EqvT T2 T2' := by
  obtain ⟨-, -, h1, h2, hk⟩ := cm_slots h
  have fi : ∀ n ∈ i.rd, get T1 n = get T n := by
    intro n hn
    rw [hx.agr n, if_neg]
    intro e; exact (h1 n e).1 hn
  have k6 : ∀ {po : PO} {k : Nat}, po.kind = k → k ≠ 6 → po.kind ≠ 6 := fun e h => by rw [e]; exact h
  -- where i goes
  have hi' : ∃ T1' O1' G1', Stp C i T O G T1' O1' G1' ∧ Agr i T2 T T1' ∧ Memo x T O O1 G G1 O1' G1' O2 G2 := by
    rcases hk with hk | ⟨hk, hk'⟩ | ⟨hk, hk'⟩ | ⟨hk, hk'⟩ | ⟨hk, hk'⟩ | ⟨hk, hk', hr⟩ | ⟨hk, hk'⟩ | hr
    · obtain ⟨rfl, rfl⟩ := hx.still (.inl (by omega))
      obtain ⟨T1', k1, k2⟩ := hi.redo fi (.inl ⟨rfl, rfl, rfl, rfl⟩)
      exact ⟨T1', _, _, k1, k2, .inr ⟨rfl, rfl, k6 hk (by simp), fun op hp hok => (ev_k0 ((PO.pk_kind hp).symm.trans hk) hok).2.2 _ _⟩⟩
    · obtain ⟨rfl, rfl⟩ := hi.still (.inl (by omega))
      obtain ⟨T1', k1, k2⟩ := hi.redo (O2 := O) (G2 := G) (O2' := O) (G2' := G) fi (.inr ⟨rfl, rfl, k6 hk (by simp), fun op hp hok => (ev_k0 ((PO.pk_kind hp).symm.trans hk) hok).2.2 _ _⟩)
      exact ⟨T1', O, G, k1, k2, .inl ⟨rfl, rfl, rfl, rfl⟩⟩
    · obtain ⟨rfl, rfl⟩ := hx.still (.inl (by omega))
      obtain ⟨rfl, rfl⟩ := hi.still (.inl (by omega))
      obtain ⟨T1', k1, k2⟩ := hi.redo fi (.inl ⟨rfl, rfl, rfl, rfl⟩)
      exact ⟨T1', _, _, k1, k2, .inl ⟨rfl, rfl, rfl, rfl⟩⟩
    · obtain ⟨rfl, rfl⟩ := hx.still (.inl (by omega))
      obtain ⟨T1', k1, k2⟩ := hi.redo fi (.inl ⟨rfl, rfl, rfl, rfl⟩)
      refine ⟨T1', _, _, k1, k2, ?_⟩
      rcases hi.mem with ⟨rfl, rfl⟩ | ⟨op, hp, hkk, hok, rfl, rfl⟩
      · exact .inl ⟨rfl, rfl, rfl, rfl⟩
      · obtain ⟨o, e1, e2⟩ := ev_k2 (T := T1) (hkk.symm.trans hk') (O := O1) (G := G1)
        rw [e1, e2]
        exact .inr ⟨rfl, rfl, k6 hk (by simp), fun op hp hok => (ev_k1 ((PO.pk_kind hp).symm.trans hk) hok).2.2 o⟩
    · obtain ⟨rfl, rfl⟩ := hx.still (hk.imp (fun h => by omega) id)
      obtain ⟨rfl, rfl⟩ := hi.still (hk'.imp (fun h => by omega) id)
      obtain ⟨T1', k1, k2⟩ := hi.redo fi (.inl ⟨rfl, rfl, rfl, rfl⟩)
      exact ⟨T1', _, _, k1, k2, .inl ⟨rfl, rfl, rfl, rfl⟩⟩
    · obtain ⟨rfl, rfl⟩ := hx.still (.inl (by omega))
      obtain ⟨T1', k1, k2⟩ := hi.redo fi (.inl ⟨rfl, rfl, rfl, rfl⟩)
      refine ⟨T1', _, _, k1, k2, ?_⟩
      rcases k1.mem with ⟨rfl, rfl⟩ | ⟨op, hp, hkk, hok, rfl, rfl⟩
      · exact .inl ⟨rfl, rfl, rfl, rfl⟩
      · refine .inr ⟨rfl, rfl, k6 hk (by simp), fun op' hp' hok' => ?_⟩
        unfold relP at hr
        rw [hp', hp] at hr
        obtain ⟨r1, r2, r3, r4, r5⟩ := rel_store hr ((PO.pk_kind hp').symm.trans hk) hok' hok
        rw [r5]
        exact ⟨r1, r2, r3, r4⟩
    · obtain ⟨rfl, rfl⟩ := hx.still (.inl (by omega))
      obtain ⟨T1', k1, k2⟩ := hi.redo fi (.inl ⟨rfl, rfl, rfl, rfl⟩)
      refine ⟨T1', _, _, k1, k2, ?_⟩
      rcases hi.mem with ⟨rfl, rfl⟩ | ⟨op, hp, hkk, hok, rfl, rfl⟩
      · exact .inl ⟨rfl, rfl, rfl, rfl⟩
      · rw [appF_O (hkk.symm.trans hk') hok]
        exact .inr ⟨rfl, rfl, k6 hk (by simp), fun op' hp' hok' => ev_k1_G ((PO.pk_kind hp').symm.trans hk) hok' _⟩
    · obtain ⟨d, ks, z, m, k, d', rfl, rfl⟩ := relM_cases hr
      obtain ⟨rfl, rfl⟩ := hx.still (.inl (Nat.le_refl 1))
      obtain ⟨T1', k1, k2⟩ := hi.redo fi (.inl ⟨rfl, rfl, rfl, rfl⟩)
      refine ⟨T1', _, _, k1, k2, ?_⟩
      rcases k1.mem with ⟨rfl, rfl⟩ | ⟨op, hp, hkk, hok, rfl, rfl⟩
      · exact .inl ⟨rfl, rfl, rfl, rfl⟩
      · refine .inr ⟨rfl, rfl, by simp [PO.kind, PK.kind], fun op' hp' hok' => ?_⟩
        simp only [PO.pk, Option.some.injEq] at hp hp'
        subst hp; subst hp'
        obtain ⟨r1, r2, r3, r4, r5⟩ := rel_ment (ks := ks) (z := z) (O := O1) (G := G1) (m := m.ev T) (k := k.ev T) hok' hok
        dsimp only [ev]
        rw [r5]
        exact ⟨r1, r2, r3, r4⟩
  obtain ⟨T1', O1', G1', k1, k2, k3⟩ := hi'
  have fx : ∀ n ∈ x.rd, get T n = get T1' n := by
    intro n hn
    rw [k2 n, if_neg]
    intro e; exact h2 n e hn
  obtain ⟨T2', k4, k5⟩ := hx.redo fx k3
  refine ⟨T1', O1', G1', T2', k1, k4, fun n => ?_⟩
  have a1 := hx.agr n
  have a2 := hi.agr n
  have a3 := k2 n
  have a4 := k5 n
  by_cases e1 : x.wr = some n
  · have e2 := (h1 n e1).2
    rw [if_neg e2] at a2
    rw [if_pos e1] at a4
    rw [a4, a2]
  · rw [if_neg e1] at a1 a4
    rw [a4, a3]
    by_cases e2 : i.wr = some n
    · rw [if_pos e2]
    · rw [if_neg e2] at a2 ⊢
      rw [a2, a1]
end
end Go.VL
