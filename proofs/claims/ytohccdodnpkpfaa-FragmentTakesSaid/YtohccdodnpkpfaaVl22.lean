/- Value logic, part 22: regions that draw their order. -/
import Derived.Test.YtohccdodnpkpfaaVl21
set_option linter.unusedVariables false
set_option linter.unusedSimpArgs false
namespace Go.VL
open Go.RowKit

theorem reachOf_bit {acc : List Nat} {o : Oper} {k : Nat} (h : (reachOf acc o).testBit k = true) : ∃ e ∈ o.after.toList, Region.binds .any e = true ∧ (k = e.on ∨ (acc.getD e.on 0).testBit k = true) := by
  unfold reachOf at h
  have key : ∀ (l : List Edge) (m : Nat), (l.foldl (fun m e => if Region.binds .any e then m ||| (1 <<< e.on) ||| acc.getD e.on 0 else m) m).testBit k = true →
      m.testBit k = true ∨ ∃ e ∈ l, Region.binds .any e = true ∧ (k = e.on ∨ (acc.getD e.on 0).testBit k = true) := by
    intro l
    induction l with
    | nil => intro m h; exact .inl h
    | cons e l ih =>
      intro m h
      simp only [List.foldl_cons] at h
      rcases ih _ h with h | ⟨e', h1, h2⟩
      · split at h
        · rename_i hb
          simp only [Nat.testBit_or, Bool.or_eq_true, Nat.one_shiftLeft, Nat.testBit_two_pow, decide_eq_true_eq] at h
          rcases h with (h | h) | h
          · exact .inl h
          · exact .inr ⟨e, by simp, hb, .inl h.symm⟩
          · exact .inr ⟨e, by simp, hb, .inr h⟩
        · exact .inl h
      · exact .inr ⟨e', by simp [h1], h2⟩
  rcases key _ _ h with h | h
  · simp at h
  · exact h

theorem reaches_spec : ∀ (l : List Oper) (acc : List Nat), ∃ ms, reaches l acc = acc ++ ms ∧ ms.length = l.length ∧
    ∀ j o, l[j]? = some o → ∀ k, (ms.getD j 0).testBit k = true → ∃ e ∈ o.after.toList, Region.binds .any e = true ∧ (k = e.on ∨ ((acc ++ ms).getD e.on 0).testBit k = true)
  | [], acc => ⟨[], by simp [reaches], rfl, fun j o h => by simp at h⟩
  | o :: l, acc => by
    obtain ⟨ms, h1, h2, h3⟩ := reaches_spec l (acc ++ [reachOf acc o])
    refine ⟨reachOf acc o :: ms, by simp [reaches, h1], by simp [h2], fun j o' hj k hk => ?_⟩
    cases j with
    | zero =>
      simp at hj; subst hj
      simp at hk
      obtain ⟨e, he, hb, hor⟩ := reachOf_bit hk
      refine ⟨e, he, hb, hor.imp id fun h => ?_⟩
      rcases Nat.lt_or_ge e.on acc.length with hlt | hge
      · rw [List.getD_eq_getElem?_getD, List.getElem?_append_left hlt, ← List.getD_eq_getElem?_getD]; exact h
      · rw [List.getD_eq_getElem?_getD, List.getElem?_eq_none hge] at h; simp at h
    | succ j =>
      obtain ⟨e, he, hb, hor⟩ := h3 j o' (by simpa using hj) k (by simpa using hk)
      exact ⟨e, he, hb, by simpa using hor⟩

theorem backs_spec : ∀ (l : List Oper) (i : Nat), backs l i = true → ∀ j o, l[j]? = some o → ∀ e ∈ o.after.toList, Region.binds .any e = true → e.on < i + j
  | [], i, h, j, o, hj => by simp at hj
  | o :: l, i, h, j, o', hj => by
    simp only [backs, Bool.and_eq_true, List.all_eq_true, Bool.or_eq_true, Bool.not_eq_true', decide_eq_true_eq] at h
    intro e he hb
    cases j with
    | zero =>
      simp at hj; subst hj
      rcases h.1 e he with h | h
      · rw [hb] at h; cases h
      · omega
    | succ j =>
      have := backs_spec l (i + 1) h.2 j o' (by simpa using hj) e he hb
      omega

theorem pairsOK_mid {ms : List Nat} {pos : List PO} : ∀ {l1 : List Nat} {i : Nat} {l2 : List Nat}, pairsOK ms pos (l1 ++ i :: l2) = true → (∀ x ∈ l1, (ms.getD i 0).testBit x = true ∨ cmAt pos x i = true) ∧ pairsOK ms pos (l1 ++ l2) = true
  | [], i, l2, h => by
    simp only [List.nil_append, pairsOK, Bool.and_eq_true] at h
    exact ⟨by simp, h.2⟩
  | x :: l1, i, l2, h => by
    simp only [List.cons_append, pairsOK, Bool.and_eq_true, List.all_eq_true, Bool.or_eq_true] at h ⊢
    obtain ⟨k1, k2⟩ := pairsOK_mid h.2
    refine ⟨fun y hy => ?_, fun y hy => h.1 y ?_, k2⟩
    · rcases List.mem_cons.1 hy with rfl | hy
      · exact h.1 i (by simp)
      · exact k1 y hy
    · simp only [List.mem_append, List.mem_cons] at hy ⊢; rcases hy with hy | hy; exact .inl hy; exact .inr (.inr hy)

theorem exists_min : ∀ (l : List Nat), l ≠ [] → ∃ m ∈ l, ∀ k ∈ l, m ≤ k
  | [], h => absurd rfl h
  | [a], _ => ⟨a, by simp, by simp⟩
  | a :: b :: l, _ => by
    obtain ⟨m, h1, h2⟩ := exists_min (b :: l) (by simp)
    rcases Nat.le_total a m with h | h
    · refine ⟨a, by simp, fun k hk => ?_⟩
      rcases List.mem_cons.1 hk with rfl | hk
      · exact Nat.le_refl _
      · exact Nat.le_trans h (h2 k hk)
    · refine ⟨m, List.mem_cons_of_mem _ h1, fun k hk => ?_⟩
      rcases List.mem_cons.1 hk with rfl | hk
      · exact h
      · exact h2 k hk

section
variable {P : Program}

/-- What is asked for more narrowly. -/
def Soft (p' p : PO) : Prop := ∀ (C : CallSem) (Q : Post) (os : List PO) (T : Tmps) (O : List AO) (G : List Nat), peOps C Q (p' :: os) T O G → peOps C Q (p :: os) T O G

theorem hardPK_chk (flag : Bool) (pos : List PO) (op : PK) : hardPK flag pos op = op ∨ ∃ p : Tmps → Prop, ∀ T O G, ev T O G (hardPK flag pos op) = (ev T O G op).chk (p T) := by
  unfold hardPK
  split
  · rename_i n ag x
    split
    · split
      · rename_i b _
        exact .inr ⟨fun T => condB T (.t x) (((storeBases pos).filter (· != b)).map .t) = true, fun T O G => rfl⟩
      · exact .inl rfl
    · exact .inl rfl
  · rename_i n x y
    split
    · exact .inr ⟨fun T => (AV.isEr (OD.ev T (.t x))) = true, fun T O G => rfl⟩
    · split
      · rename_i b _
        exact .inr ⟨fun T => condS T (.t x) (.t b) = true, fun T O G => rfl⟩
      · exact .inl rfl
  · rename_i sz b x y
    split
    · exact .inr ⟨fun T => (AV.isSl (OD.ev T x)) = true, fun T O G => rfl⟩
    · exact .inl rfl
  · exact .inl rfl

theorem hardPK_soft {flag : Bool} {pos : List PO} {op : PK} {T : Tmps} {O : List AO} {G : List Nat} (h : (ev T O G (hardPK flag pos op)).ok) :
    (ev T O G op).ok ∧ (ev T O G (hardPK flag pos op)).a = (ev T O G op).a ∧ (ev T O G (hardPK flag pos op)).O = (ev T O G op).O ∧ (ev T O G (hardPK flag pos op)).G = (ev T O G op).G := by
  rcases hardPK_chk flag pos op with e | ⟨p, e⟩
  · rw [e] at h ⊢; exact ⟨h, rfl, rfl, rfl⟩
  · rw [e] at h ⊢; exact ⟨h.2, rfl, rfl, rfl⟩

theorem hardPO_soft (flag : Bool) (pos : List PO) (p : PO) : Soft (hardPO flag pos p) p := by
  intro C Q os T O G h
  cases p <;> try exact h
  case o d op =>
    obtain ⟨h1, h2⟩ := h
    obtain ⟨k1, k2, k3, k4⟩ := hardPK_soft h1
    rw [k2, k3, k4] at h2
    exact ⟨k1, h2⟩
  case u op =>
    obtain ⟨h1, h2⟩ := h
    obtain ⟨k1, k2, k3, k4⟩ := hardPK_soft h1
    rw [k3, k4] at h2
    exact ⟨k1, h2⟩
  case g d j b op =>
    simp only [hardPO, peOps, gite] at h ⊢
    split at h
    · refine ⟨fun e => ?_, h.2⟩
      obtain ⟨h1, h2⟩ := h.1 e
      obtain ⟨k1, k2, k3, k4⟩ := hardPK_soft h1
      rw [k2, k3, k4] at h2
      exact ⟨k1, h2⟩
    · exact h
    · exact h

theorem any_sound {pol : List TypeId} {pur : List Nat} {N : Nat} {ops : Array Oper} {pos0 pos : List PO} (htr : trOs P pol pur N ops ops.toList = some pos0) (hlen0 : pos.length = pos0.length)
    (hsoft : ∀ (i : Nat) (po : PO), pos[i]? = some po → ∃ po0, pos0[i]? = some po0 ∧ Soft po po0) (hb : backs ops.toList 0 = true) {Q : Post} {E0 : Env} {D : List Deferred} :
    ∀ (fuel : Nat) (listed : Array Bool) (r : List Nat) {E : Env} {T : Tmps} {a : Act}, r.Nodup → listed.size = ops.size → r.length ≤ fuel → (∀ i, i < ops.size → (listed.getD i true = false ↔ i ∈ r)) → (∀ i ∈ r, i < ops.size) →
    (∀ j, j < ops.size → j ∉ r → ∀ k, ((reaches ops.toList []).getD j 0).testBit k = true → k < ops.size ∧ k ∉ r) → pairsOK (reaches ops.toList []) pos r = true →
    Ext E0 E → R E → RT E T a.tmps → a.tmps.size = N → a.defers = D → peOps (PSem P) (QE Q) (r.filterMap (pos[·]?)) T E.O E.G →
    wpAny P .any ops (fun e a' w' => Hold N D (QE Q e) E0 a' w') fuel listed a E.w := by
  obtain ⟨hlen, hat⟩ := trOs_at htr
  obtain ⟨ms, m1, m2, m3⟩ := reaches_spec ops.toList []
  rw [List.nil_append] at m1
  rw [m1]
  have hsz : ops.toList.length = ops.size := by simp
  -- nothing is left, when nothing is ready
  have none_left : ∀ (listed : Array Bool) (r : List Nat), (∀ i, i < ops.size → (listed.getD i true = false ↔ i ∈ r)) → (∀ i ∈ r, i < ops.size) → listed.size = ops.size → Region.ready .any ops listed = [] → r = [] := by
    intro listed r hl hr hs he
    apply Classical.byContradiction
    intro hne
    obtain ⟨m, hm, hmin⟩ := exists_min r hne
    have hlt := hr m hm
    have : m ∈ Region.ready .any ops listed := by
      unfold Region.ready
      rw [List.mem_filter]
      refine ⟨by simpa using hlt, ?_⟩
      rw [Bool.and_eq_true]
      refine ⟨by rw [(hl m hlt).2 hm]; rfl, ?_⟩
      rw [Array.getElem?_eq_getElem hlt]
      simp only [Option.map_some, Option.getD_some, Array.all_eq_true', Bool.or_eq_true, Bool.not_eq_true']
      intro e he'
      cases hbe : Region.binds .any e with
      | false => exact .inl rfl
      | true =>
        right
        have hon := backs_spec _ 0 hb m ops[m] (by rw [Array.getElem?_toList]; exact Array.getElem?_eq_getElem hlt) e (by simpa using he') hbe
        have hnot : e.on ∉ r := fun hin => by have := hmin _ hin; omega
        have hon' : e.on < ops.size := by omega
        have : ¬ listed.getD e.on true = false := fun h => hnot ((hl _ hon').1 h)
        rw [Array.getD_eq_getD_getElem?, Array.getElem?_eq_getElem (by omega)] at this ⊢
        simpa using this
    rw [he] at this
    simp at this
  have all_listed : ∀ (listed : Array Bool), (∀ i, i < ops.size → (listed.getD i true = false ↔ i ∈ ([] : List Nat))) → Region.ready .any ops listed = [] := by
    intro listed hl
    unfold Region.ready
    rw [List.filter_eq_nil_iff]
    intro i hi
    have := hl i (by simpa using hi)
    simp at this
    simp [this]
  intro fuel
  induction fuel with
  | zero =>
    intro listed r E T a hnd hs hf hl hr hc hp x hR hT hN hD h
    have : r = [] := List.eq_nil_of_length_eq_zero (by omega)
    subst this
    exact ⟨all_listed listed hl, E, T, rfl, hR, x, hT, hN, hD, h⟩
  | succ fuel ih =>
    intro listed r E T a hnd hs hf hl hr hc hp x hR hT hN hD h
    refine ⟨fun he => ?_, fun i hi => ?_⟩
    · have := none_left listed r hl hr hs he
      subst this
      exact ⟨E, T, rfl, hR, x, hT, hN, hD, h⟩
    · unfold Region.ready at hi
      rw [List.mem_filter, Bool.and_eq_true] at hi
      obtain ⟨hi1, hi2, hi3⟩ := hi
      have hilt : i < ops.size := by simpa using hi1
      have hir : i ∈ r := (hl i hilt).1 (by simpa using hi2)
      obtain ⟨l1, l2, rfl⟩ := List.append_of_mem hir
      have hoi : ops.toList[i]? = some ops[i] := by rw [Array.getElem?_toList]; exact Array.getElem?_eq_getElem hilt
      rw [Array.getElem?_eq_getElem hilt] at hi3
      simp only [Option.map_some, Option.getD_some, Array.all_eq_true', Bool.or_eq_true, Bool.not_eq_true'] at hi3
      -- what i waits for has been done
      have hreach : ∀ k, (ms.getD i 0).testBit k = true → k < ops.size ∧ k ∉ l1 ++ i :: l2 := by
        intro k hk
        obtain ⟨e, he, hbe, hor⟩ := m3 i _ hoi k hk
        rw [List.nil_append] at hor
        have hon := backs_spec _ 0 hb i _ hoi e he hbe
        have hon' : e.on < ops.size := by omega
        have hdone : e.on ∉ l1 ++ i :: l2 := by
          rcases hi3 e (by simpa using he) with h | h
          · rw [hbe] at h; cases h
          · intro hin
            have := (hl _ hon').2 hin
            rw [Array.getD_eq_getD_getElem?, Array.getElem?_eq_getElem (by omega)] at this h
            simp at this h
            rw [this] at h; cases h
        rcases hor with rfl | hor
        · exact ⟨hon', hdone⟩
        · exact hc _ hon' hdone k hor
      obtain ⟨p1, p2⟩ := pairsOK_mid hp
      obtain ⟨poi0', hpi0', _⟩ := hat i _ hoi
      have hilt0 : i < pos.length := by rw [hlen0]; exact (List.getElem?_eq_some_iff.1 hpi0').1
      obtain ⟨poi, hpi⟩ : ∃ poi, pos[i]? = some poi := ⟨_, List.getElem?_eq_getElem hilt0⟩
      obtain ⟨poi0, hpi0, hsf⟩ := hsoft i poi hpi
      have hfm : (l1 ++ i :: l2).filterMap (pos[·]?) = l1.filterMap (pos[·]?) ++ poi :: l2.filterMap (pos[·]?) := by
        rw [List.filterMap_append, List.filterMap_cons, hpi]
      rw [hfm] at h
      have hfront := peOps_front (PSem.cmono P) (fun y hy => by
        rw [List.mem_filterMap] at hy
        obtain ⟨j, hj, hjy⟩ := hy
        rcases p1 j hj with hbit | hcm
        · exact absurd (List.mem_append_left _ hj) (hreach j hbit).2
        · unfold cmAt at hcm
          rw [hjy, hpi] at hcm
          exact hcm) h
      rw [← List.filterMap_append] at hfront
      refine wpOp_sound htr hpi0 x hR hT hN hD (hsf _ _ _ _ _ _ hfront) fun a' w' hh => ?_
      obtain ⟨E', T', rfl, q2, q3, q4, q5, q6, q7⟩ := hh
      have hnd' : (l1 ++ l2).Nodup ∧ i ∉ l1 ++ l2 := by
        have := (List.perm_middle (a := i) (l₁ := l1) (l₂ := l2)).nodup_iff.1 hnd
        rw [List.nodup_cons] at this
        exact ⟨this.2, this.1⟩
      refine ih (listed.setIfInBounds i true) (l1 ++ l2) hnd'.1 (by simpa using hs) (by simp at hf ⊢; omega) ?_ (fun j hj => hr j (by simp at hj ⊢; rcases hj with hj | hj; exact .inl hj; exact .inr (.inr hj))) ?_ p2 q3 q2 q4 q5 q6 q7
      · intro j hj
        rw [Array.getD_eq_getD_getElem?, Array.getElem?_setIfInBounds]
        by_cases e : i = j
        · subst e
          rw [if_pos rfl, if_pos (by omega)]
          simp
          simpa using hnd'.2
        · rw [if_neg e, ← Array.getD_eq_getD_getElem?, hl j hj]
          simp [Ne.symm e]
      · intro j hj hnot k hk
        by_cases e : j = i
        · subst e
          obtain ⟨w1, w2⟩ := hreach k hk
          exact ⟨w1, fun hin => w2 (by simp at hin ⊢; rcases hin with hin | hin; exact .inl hin; exact .inr (.inr hin))⟩
        · obtain ⟨w1, w2⟩ := hc j hj (by simp at hnot ⊢; exact ⟨hnot.1, e, hnot.2⟩) k hk
          exact ⟨w1, fun hin => w2 (by simp at hin ⊢; rcases hin with hin | hin; exact .inl hin; exact .inr (.inr hin))⟩
end
end Go.VL
