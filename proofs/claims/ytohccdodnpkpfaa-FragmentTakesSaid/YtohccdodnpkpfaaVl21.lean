/- Value logic, part 21: regions. -/
import Derived.Test.YtohccdodnpkpfaaVl20
set_option linter.unusedVariables false
set_option linter.unusedSimpArgs false
namespace Go.VL
open Go.RowKit

/-- Calls ask for no more than what follows them. -/
def CMono (C : CallSem) : Prop := ∀ f args O G K K', (∀ r O G, K r O G → K' r O G) → C.c f args O G K → C.c f args O G K'

theorem PSem.cmono (P : Program) : CMono (PSem P) := fun _ _ _ _ _ _ h h' => PCall.mono h' h

section
variable {C : CallSem} {Q : Post}

theorem evNext_mono {O : List AO} {G : List Nat} {x : AV} {k k' : AV → List AO → List Nat → Prop} (hk : ∀ r O G, k r O G → k' r O G) (h : evNext O G x k) : evNext O G x k' := by
  unfold evNext at h ⊢
  split at h
  · split at h
    · split at h
      · exact ⟨h.1, fun e => hk _ _ _ (h.2.1 e), fun l1 key l2 e a ha => hk _ _ _ (h.2.2 l1 key l2 e a ha)⟩
      · exact h
    · exact h
  · exact h

theorem peOps_tail (hC : CMono C) {Q Q' : Post} {po : PO} {os os' : List PO} (h : ∀ T O G, peOps C Q os T O G → peOps C Q' os' T O G) {T : Tmps} {O : List AO} {G : List Nat} (hp : peOps C Q (po :: os) T O G) : peOps C Q' (po :: os') T O G := by
  have hK : ∀ (d : Option Nat) (T : Tmps) (r : AV) (O : List AO) (G : List Nat), Kont C (peOps C Q os) d T r O G → Kont C (peOps C Q' os') d T r O G := fun d T r O G k => h _ _ _ k
  cases po with
  | o d op => exact ⟨hp.1, h _ _ _ hp.2⟩
  | u op => exact ⟨hp.1, h _ _ _ hp.2⟩
  | g d j b op =>
    simp only [peOps, gite] at hp ⊢
    split at hp
    · exact ⟨fun e => ⟨(hp.1 e).1, h _ _ _ (hp.1 e).2⟩, fun e => h _ _ _ (hp.2 e)⟩
    · exact h _ _ _ hp
    · exact hp
  | c d f args => exact hC _ _ _ _ _ _ (hK _ _) hp
  | gc d j b f args =>
    simp only [peOps, gite] at hp ⊢
    split at hp
    · exact ⟨fun e => hC _ _ _ _ _ _ (hK _ _) (hp.1 e), fun e => h _ _ _ (hp.2 e)⟩
    · exact h _ _ _ hp
    · exact hp
  | p d f args => exact let ⟨r, h1, h2⟩ := hp; ⟨r, h1, h _ _ _ h2⟩
  | gp d j b f args =>
    simp only [peOps, gite] at hp ⊢
    split at hp
    · exact ⟨fun e => let ⟨r, h1, h2⟩ := hp.1 e; ⟨r, h1, h _ _ _ h2⟩, fun e => h _ _ _ (hp.2 e)⟩
    · exact h _ _ _ hp
    · exact hp
  | q d f args => exact let ⟨r, h1, h2⟩ := hp; ⟨r, h1, h _ _ _ h2⟩
  | gq d j b f args =>
    simp only [peOps, gite] at hp ⊢
    split at hp
    · exact ⟨fun e => let ⟨r, h1, h2⟩ := hp.1 e; ⟨r, h1, h _ _ _ h2⟩, fun e => h _ _ _ (hp.2 e)⟩
    · exact h _ _ _ hp
    · exact hp
  | cv d x args =>
    simp only [peOps, gite] at hp ⊢
    split at hp
    · exact hC _ _ _ _ _ _ (hK _ _) hp
    · exact hp
  | nx d x => exact evNext_mono (hK _ _) hp

theorem peOps_eqv (hC : CMono C) : ∀ {os : List PO} {T T' : Tmps} {O : List AO} {G : List Nat}, EqvT T T' → peOps C (QE Q) os T O G → peOps C (QE Q) os T' O G
  | [], T, T', O, G, e, h => let ⟨T2, h1, h2⟩ := h; ⟨T2, e.symm.trans h1, h2⟩
  | po :: os, T, T', O, G, e, h => by
    have ih := fun {T T' : Tmps} {O : List AO} {G : List Nat} (e : EqvT T T') (h : peOps C (QE Q) os T O G) => peOps_eqv hC e h
    have hev : ∀ op O G, ev T O G op = ev T' O G op := fun op O G => ev_od (fun x _ => by rw [e.od]) O G
    have hK : ∀ (d : Option Nat) {T T' : Tmps} (e : EqvT T T') (r : AV) (O : List AO) (G : List Nat), Kont C (peOps C (QE Q) os) d T r O G → Kont C (peOps C (QE Q) os) d T' r O G := fun d T T' e r O G k => ih (e.put d r) k
    cases po with
    | o d op => simp only [peOps, hev op] at h ⊢; exact ⟨h.1, ih (e.cons _ _) h.2⟩
    | u op => simp only [peOps, hev op] at h ⊢; exact ⟨h.1, ih e h.2⟩
    | g d j b op =>
      simp only [peOps, gite, hev op, e j] at h ⊢
      split at h
      · exact ⟨fun q => ⟨(h.1 q).1, ih ((e.cons _ _).cons _ _) (h.1 q).2⟩, fun q => ih ((e.cons _ _).cons _ _) (h.2 q)⟩
      · exact ih (e.cons _ _) h
      · exact h
    | c d f args => simp only [peOps, e.od] at h ⊢; exact hC _ _ _ _ _ _ (hK d e) h
    | gc d j b f args =>
      simp only [peOps, gite, e.od, e j] at h ⊢
      split at h
      · exact ⟨fun q => hC _ _ _ _ _ _ (hK (some d) (e.cons _ _)) (h.1 q), fun q => ih ((e.cons _ _).cons _ _) (h.2 q)⟩
      · exact ih (e.cons _ _) h
      · exact h
    | p d f args => simp only [peOps, e.od] at h ⊢; exact let ⟨r, h1, h2⟩ := h; ⟨r, h1, ih (e.cons _ _) h2⟩
    | gp d j b f args =>
      simp only [peOps, gite, e.od, e j] at h ⊢
      split at h
      · exact ⟨fun q => let ⟨r, h1, h2⟩ := h.1 q; ⟨r, h1, ih ((e.cons _ _).cons _ _) h2⟩, fun q => ih ((e.cons _ _).cons _ _) (h.2 q)⟩
      · exact ih (e.cons _ _) h
      · exact h
    | q d f args => simp only [peOps, e.od] at h ⊢; exact let ⟨r, h1, h2⟩ := h; ⟨r, h1, ih (e.cons _ _) h2⟩
    | gq d j b f args =>
      simp only [peOps, gite, e.od, e j] at h ⊢
      split at h
      · exact ⟨fun q => let ⟨r, h1, h2⟩ := h.1 q; ⟨r, h1, ih ((e.cons _ _).cons _ _) h2⟩, fun q => ih ((e.cons _ _).cons _ _) (h.2 q)⟩
      · exact ih (e.cons _ _) h
      · exact h
    | cv d x args =>
      simp only [peOps, e.od] at h ⊢
      split at h
      · exact hC _ _ _ _ _ _ (hK d e) h
      · exact h
    | nx d x => simp only [peOps, e.od] at h ⊢; exact evNext_mono (hK (some d) e) h

/-- Two operations change places. -/
theorem peOps_swap (hC : CMono C) {x i : PO} (h : cm x i = true) {os : List PO} {T : Tmps} {O : List AO} {G : List Nat} (hp : peOps C (QE Q) (x :: i :: os) T O G) : peOps C (QE Q) (i :: x :: os) T O G := by
  obtain ⟨nx, ni, h1, h2, hk⟩ := cm_slots h
  have hx : x.isCall = false := by
    cases hq : x.isCall
    · rfl
    · have := kind_call hq
      rcases hk with hk | ⟨_, hk⟩ | ⟨hk, _⟩ | ⟨hk, _⟩ | ⟨hk, _⟩ | ⟨hk, _⟩ | ⟨hk, _⟩ | hk
      · omega
      · rw [hk] at hq; exact hq.symm
      · omega
      · omega
      · omega
      · omega
      · omega
      · obtain ⟨d, ks, z, m, k, d', rfl, rfl⟩ := relM_cases hk
        cases hq
  obtain ⟨T1, O1, G1, sx, hp'⟩ := (peOps_stp hx).1 hp
  clear hp
  have hp := hp'
  clear hp'
  cases hi : i.isCall with
  | false =>
    obtain ⟨T2, O2, G2, si, hp⟩ := (peOps_stp hi).1 hp
    obtain ⟨T1', O1', G1', T2', k1, k2, k3⟩ := Stp.swap h sx si
    exact (peOps_stp hi).2 ⟨_, _, _, k1, (peOps_stp hx).2 ⟨_, _, _, k2, peOps_eqv hC k3 hp⟩⟩
  | true =>
    have hki := kind_call hi
    have hk0 : x.kind = 0 := by
      rcases hk with hk | ⟨hk, _⟩ | ⟨_, hk⟩ | ⟨_, hk⟩ | ⟨_, hk⟩ | ⟨_, hk, _⟩ | ⟨_, hk⟩ | hk
      · exact hk
      · omega
      · omega
      · omega
      · omega
      · omega
      · omega
      · obtain ⟨d, ks, z, m, k, d', rfl, rfl⟩ := relM_cases hk
        cases hi
    obtain ⟨rfl, rfl⟩ := sx.still (.inl (by omega))
    -- the slots that the call looks at
    have fi : ∀ n ∈ i.rd, get T1 n = get T n := by
      intro n hn
      rw [sx.agr n, if_neg]
      intro e; exact (h1 n e).1 hn
    -- x behind the call
    have back : ∀ (d : Option Nat) (hd : i.wr = d) (T1a Ta : Tmps) (ha : Agr x T1a Ta T1a) (hw : ∀ n, x.wr = some n → get T1a n = get T1 n) (hT : ∀ n ∈ x.rd, get T n = get Ta n), ∀ r O' G', Kont C (peOps C (QE Q) os) d T1a r O' G' → Kont C (peOps C (QE Q) (x :: os)) d Ta r O' G' := by
      intro d hd T1a Ta ha hw hT r O' G' hK
      have fx : ∀ n ∈ x.rd, get T n = get (put d r Ta) n := by
        intro n hn
        rw [hT n hn]
        cases d with
        | none => rfl
        | some d =>
          simp only [put, get]
          rw [if_neg]
          rintro rfl
          exact h2 _ hd hn
      obtain ⟨T2', k1, k2⟩ := sx.redo fx (.inr ⟨rfl, rfl, by rw [hk0]; simp, fun op hp hok => (ev_k0 ((PO.pk_kind hp).symm.trans hk0) hok).2.2 _ _⟩ : Memo x T O1 O1 G1 G1 O' G' O' G')
      refine (peOps_stp hx).2 ⟨_, _, _, k1, peOps_eqv hC ?_ hK⟩
      intro n
      rw [k2 n]
      by_cases e : x.wr = some n
      · rw [if_pos e, ← hw n e]
        cases d with
        | none => rfl
        | some d =>
          simp only [put, get]
          rw [if_neg]
          rintro rfl
          exact (h1 _ e).2 hd
      · rw [if_neg e]
        have := ha n
        rw [if_neg e] at this
        cases d with
        | none => exact this
        | some d =>
          simp only [put, get]
          split
          · rfl
          · exact this
    have cons_agr : ∀ (j : Nat) (a : AV), j ∈ i.rd → Agr x ((j, a) :: T1) ((j, a) :: T) ((j, a) :: T1) := by
      intro j a hj n
      by_cases e : x.wr = some n
      · rw [if_pos e]
      · rw [if_neg e]
        simp only [get]
        split
        · rfl
        · have := sx.agr n
          rw [if_neg e] at this
          exact this
    cases i with
    | c d f args =>
      simp only [peOps, gite] at hp ⊢
      rw [show args.map (OD.ev T) = args.map (OD.ev T1) from List.map_congr_left fun x hx => (ods_fit fi x hx).symm]
      exact hC _ _ _ _ _ _ (back d rfl T1 T sx.agr (fun _ _ => rfl) (fun _ _ => rfl)) hp
    | gc d j b f args =>
      simp only [PO.rd, List.mem_cons, forall_eq_or_imp] at fi
      simp only [peOps, gite] at hp ⊢
      rw [show args.map (OD.ev T) = args.map (OD.ev T1) from List.map_congr_left fun x hx => (ods_fit fi.2 x hx).symm, ← fi.1]
      split at hp
      · rename_i t ht
        have hj : ∀ a n, x.wr = some n → get ((j, a) :: T1) n = get T1 n := by
          intro a n e
          simp only [get]
          rw [if_neg]
          rintro rfl
          exact (h1 _ e).1 (by simp [PO.rd])
        have hjx : ∀ a, a = AV.v (.bool t) → ∀ n ∈ x.rd, get T n = get ((j, a) :: T) n := by
          rintro a rfl n _
          simp only [get]
          split
          · rename_i e; rw [e, ← fi.1, ht]
          · rfl
        refine ⟨fun q => ?_, fun q => ?_⟩
        · subst q
          exact hC _ _ _ _ _ _ (back (some d) rfl _ _ (cons_agr j _ (by simp [PO.rd])) (hj _) (hjx _ rfl)) (hp.1 rfl)
        · subst q
          have hq := hp.2 rfl
          have := back (some d) rfl ((j, .v (.bool !b)) :: T1) ((j, .v (.bool !b)) :: T) (cons_agr j _ (by simp [PO.rd])) (hj _) (hjx _ rfl) udf O1 G1 hq
          exact this
      · rename_i xx hx
        exact back (some d) rfl T1 T sx.agr (fun _ _ => rfl) (fun _ _ => rfl) udf O1 G1 hp
      · exact hp
    | cv d y args =>
      simp only [PO.rd] at fi
      simp only [peOps, gite] at hp ⊢
      have hall := ods_fit fi
      rw [show args.map (OD.ev T) = args.map (OD.ev T1) from List.map_congr_left fun x hx => (hall x (List.mem_cons_of_mem _ hx)).symm, ← hall y (by simp)]
      split at hp
      · exact hC _ _ _ _ _ _ (back d rfl T1 T sx.agr (fun _ _ => rfl) (fun _ _ => rfl)) hp
      · exact hp
    | nx d y => simp [PO.isNx] at ni
    | _ => simp [PO.isCall] at hi

/-- An operation is brought to the front. -/
theorem peOps_front (hC : CMono C) {i : PO} : ∀ {l1 l2 : List PO}, (∀ x ∈ l1, cm x i = true) → ∀ {T O G}, peOps C (QE Q) (l1 ++ i :: l2) T O G → peOps C (QE Q) (i :: (l1 ++ l2)) T O G
  | [], l2, _, T, O, G, h => h
  | x :: l1, l2, hc, T, O, G, h => by
    have h1 : peOps C (QE Q) (x :: i :: (l1 ++ l2)) T O G := peOps_tail hC (fun T O G h => peOps_front hC (fun y hy => hc y (by simp [hy])) h) h
    exact peOps_swap hC (hc x (by simp)) h1
end

section
variable {P : Program}

theorem trOs_at {pol : List TypeId} {pur : List Nat} {N : Nat} {ops : Array Oper} : ∀ {l : List Oper} {pos : List PO}, trOs P pol pur N ops l = some pos → pos.length = l.length ∧ ∀ (i : Nat) (o : Oper), l[i]? = some o → ∃ po, pos[i]? = some po ∧ trO P pol pur N ops o = some po
  | [], pos, h => by simp [trOs] at h; subst h; exact ⟨rfl, fun i o h => by simp at h⟩
  | o :: l, pos, h => by
    simp only [trOs] at h
    split at h
    · rename_i a as h1 h2
      injection h with h; subst h
      obtain ⟨k1, k2⟩ := trOs_at h2
      refine ⟨by simp [k1], fun i o' hi => ?_⟩
      cases i with
      | zero => simp at hi; subst hi; exact ⟨a, rfl, h1⟩
      | succ i => simpa using k2 i o' (by simpa using hi)
    · cases h

/-- One operation, by its number. -/
theorem wpOp_sound {pol : List TypeId} {pur : List Nat} {N : Nat} {ops : Array Oper} {pos : List PO} (htr : trOs P pol pur N ops ops.toList = some pos) {i : Nat} {po : PO} (hi : pos[i]? = some po) {os : List PO} {Q : Post} {E0 E : Env} {T : Tmps} {a : Act} {D : List Deferred}
    {QQ : Exit → Act → World → Prop} (x : Ext E0 E) (hr : R E) (hT : RT E T a.tmps) (hN : a.tmps.size = N) (hD : a.defers = D) (h : peOps (PSem P) Q (po :: os) T E.O E.G) {K : Act → World → Prop} (hK : ∀ a' w', Hold N D (peOps (PSem P) Q os) E0 a' w' → K a' w') :
    wpOp P ops QQ i K a E.w := by
  obtain ⟨k1, k2⟩ := trOs_at htr
  have hlt : i < ops.toList.length := by rw [← k1]; exact (List.getElem?_eq_some_iff.1 hi).1
  obtain ⟨po', h1, h2⟩ := k2 i _ (List.getElem?_eq_getElem hlt)
  rw [hi] at h1; injection h1 with h1; subst h1
  have ho : ops[i]? = some (ops.toList[i]) := by rw [← Array.getElem?_toList]; exact List.getElem?_eq_getElem hlt
  have := step_sound (QQ := QQ) h2 hr hT hN hD h
  unfold wpOp
  simp only [ho]
  split
  · rename_i hw
    rw [if_pos hw] at this
    exact .inl (Oper.wp_mono (fun a' w' k => hK a' w' (k.trans x)) this)
  · rename_i hw
    rw [if_neg hw] at this
    exact hK _ _ (this.trans x)

theorem wpOps_sound {pol : List TypeId} {pur : List Nat} {N : Nat} {ops : Array Oper} {pos : List PO} (htr : trOs P pol pur N ops ops.toList = some pos) {Q : Post} {E0 : Env} {D : List Deferred} : ∀ (l : List Nat) (os : List PO) (hl : l.map (pos[·]?) = os.map some) {E : Env} {T : Tmps} {a : Act},
    Ext E0 E → R E → RT E T a.tmps → a.tmps.size = N → a.defers = D → peOps (PSem P) Q os T E.O E.G → wpOps P ops (fun e a' w' => Hold N D (Q e) E0 a' w') l a E.w
  | [], os, hl, E, T, a, x, hr, hT, hN, hD, h => by
    cases os with
    | nil => exact ⟨E, T, rfl, hr, x, hT, hN, hD, h⟩
    | cons => simp at hl
  | i :: l, os, hl, E, T, a, x, hr, hT, hN, hD, h => by
    cases os with
    | nil => simp at hl
    | cons po os =>
      simp only [List.map_cons, List.cons.injEq] at hl
      rw [wpOps_cons]
      refine wpOp_sound htr hl.1 x hr hT hN hD h fun a' w' hh => ?_
      obtain ⟨E', T', rfl, h2, h3, h4, h5, h6, h7⟩ := hh
      exact wpOps_sound htr l os hl.2 h3 h2 h4 h5 h6 h7
end
end Go.VL
