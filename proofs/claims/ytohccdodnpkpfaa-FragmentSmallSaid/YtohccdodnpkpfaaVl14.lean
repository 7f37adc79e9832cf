/- Value logic, part 14: append, make, max and min. -/
import Derived.Test.YtohccdodnpkpfaaVl13
set_option linter.unusedVariables false
set_option linter.unusedSimpArgs false
namespace Go.VL
open Go.RowKit

theorem flat_one {vs : List Value} (h : ∀ v ∈ vs, ∀ c ∈ v.cells.toList, c.oneCell' = true) : ∀ c ∈ flat vs, c.oneCell' = true := by
  intro c hc
  simp only [flat, List.mem_flatMap] at hc
  obtain ⟨v, hv, hc⟩ := hc
  exact h v hv c hc
theorem flat_append (a b : List Value) : flat (a ++ b) = flat a ++ flat b := by simp [flat]

/-- A frozen slice with elements: where it lies. -/
theorem sl_row {E : Env} {xs : List AV} {t : Tail} {y : Value} {sz : Nat} (h : Rep E (.sl xs t) y) (hne : xs ≠ []) (hs : ∀ x ∈ xs, szOK sz x = true) :
    ∃ b o cap vs, y = .slice (some ⟨b, o, none⟩) xs.length cap ∧ RepL E xs vs ∧ (∀ u ∈ vs, u.cells.size = sz ∧ ∀ c ∈ u.cells.toList, c.oneCell' = true) ∧ RowAt E.w b o (flat vs) ∧ xs.length ≤ cap ∧ TailAt E b o cap sz xs.length t := by
  cases h with
  | slE a cap _ _ => exact absurd rfl hne
  | @sl _ _ vs b o cap sz' g0 g1 g2 g3 g4 g5 g6 g7 =>
    have hf := g1.flat hs
    have e : sz' = sz := by
      obtain ⟨x, xs', rfl⟩ := List.exists_cons_of_ne_nil hne
      cases g1 with
      | @cons _ v _ vs' hx _ => rw [← (hf v (by simp)).1]; exact (g2 v (by simp)).symm
    subst e
    exact ⟨b, o, cap, vs, rfl, g1, hf, g4, g6, g7⟩

theorem size_of_flat {vs : List Value} {sz : Nat} (hv : ∀ u ∈ vs, u.cells.size = sz ∧ ∀ c ∈ u.cells.toList, c.oneCell' = true) : (flat vs).length = vs.length * sz := length_flat fun u hu => (hv u hu).1

section
variable {P : Program}

theorem take_new {cur olds news zs : List Value} {k : Nat} (h : cur = olds ++ news ++ zs) (hk : k = olds.length + news.length) : cur.take k = olds ++ news := by
  subst h; subst hk
  rw [← List.length_append, List.take_left]

/-- Growing into a new block: what the model does, from a row or from nothing. -/
theorem run_grow {E : Env} {t ty e : TypeId} {i : TypeInfo} {z : Value} (ht : P.underlying t = some (.slice e)) (hi : P.info? e = some i) (hz : i.zero = some z) (hzs : z.cells.size = i.size)
    {a : Option Addr} {n cap : Nat} {olds : List Value} (hlo : olds.length = n * i.size) (holds : ∀ ad, a = some ad → ∀ j v, olds[j]? = some v → E.w.cell? (ad.add j) = some v) (hnone : a = none → n = 0 ∧ cap = 0)
    {b2 o2 m c2 : Nat} {news : List Value} (hl : news.length = m * i.size) (hnews : RowAt E.w b2 o2 news) (hm : 0 < m) (hg : cap < n + m) (hfit : (n + m) * i.bytes ≤ 140737488355328) (hb : n + m ≤ 140737488355328) :
    ∃ ncap cur w', (Builtin.append_ #[t, t] ty #[.slice a n cap, .slice (some ⟨b2, o2, none⟩) m c2]).run P E.w = .ok (.slice (some ⟨E.w.heap.size, 0, none⟩) (n + m) ncap) w' ∧
      Below E.w.heap.size E.w w' ∧ w'.heap[E.w.heap.size]? = some (.cells cur e (0, 0)) ∧ cur.size = ncap * i.size ∧ n + m ≤ ncap ∧ cur.toList.take ((n + m) * i.size) = olds ++ news ∧ E.w.heap.size < w'.heap.size := by
  have hn2 : ∀ j v, news[j]? = some v → E.w.cell? ((⟨b2, o2, none⟩ : Addr).add j) = some v := fun j v hv => by rw [add_lit0]; exact hnews j v hv
  have hge := grownCap_ge E.w (n + m) cap e
  have hbelow : ∀ ob, Below E.w.heap.size E.w (E.w.drew.alloc ob) := fun ob => ((Below.refl _ _).drew).alloc (Nat.le_refl _) ob
  have hnew : ∀ ob, (E.w.drew.alloc ob).heap[E.w.heap.size]? = some ob := fun ob => heap_alloc_new E.w.drew ob
  have hlt : ∀ ob, E.w.heap.size < (E.w.drew.alloc ob).heap.size := fun ob => by simp
  have hsz : ∀ k, (Builtin.zeroCells z.cells k).size = k * i.size := fun k => by rw [size_zeroCells, hzs]
  have hmul : ∀ x, n + m ≤ x → n * i.size + m * i.size + (x - (n + m)) * i.size = x * i.size := fun x hx => by
    rw [← Nat.add_mul, ← Nat.add_mul]; congr 1; omega
  cases a with
  | none =>
    obtain ⟨rfl, rfl⟩ := hnone rfl
    have ho : olds = [] := List.eq_nil_of_length_eq_zero (by simpa using hlo)
    subst ho
    have hr := run_append_nil (P := P) E.w t ty e i z ht hi hz ⟨b2, o2, none⟩ m c2 news hl hn2 hm (by omega) (by simp only [Nat.zero_add] at hfit; omega)
    simp only [Nat.zero_add] at hge hfit ⊢
    refine ⟨_, _, _, hr, hbelow _, hnew _, ?_, hge, ?_, hlt _⟩
    · have := hmul (grownCap E.w m 0 e) (by omega)
      simp only [Array.size_append, List.size_toArray, hl, hsz]
      simp only [Nat.zero_mul, Nat.zero_add] at this
      exact this
    · simp only [Array.toList_append, List.nil_append]
      rw [← hl, List.take_left]
  | some ad =>
    have hr := run_append_grow (P := P) E.w t ty e i z ht hi hz ad n cap olds hlo (holds ad rfl) ⟨b2, o2, none⟩ m c2 news hl hn2 (by omega) (by omega) (growslice_fits (by omega) hfit)
    refine ⟨_, _, _, hr, hbelow _, hnew _, ?_, hge, ?_, hlt _⟩
    · simp only [Array.size_append, List.size_toArray, hlo, hl, hsz]
      exact hmul _ hge
    · simp only [Array.toList_append]
      rw [Nat.add_mul, ← hlo, ← hl, ← List.length_append, List.take_left]

/-- What is appended: where it lies. -/
theorem src_row {E : Env} (r : R E) {y : AV} {v : Value} {ys : List AV} {sz : Nat} (hy : Rep E y v) (hel : elemsOf E.O y = some ys) :
    (ys = [] → ∃ a2 c2, v = .slice a2 0 c2) ∧ (ys ≠ [] → (∀ y ∈ ys, szOK sz y = true) → ∃ b2 o2 c2 vs2, v = .slice (some ⟨b2, o2, none⟩) ys.length c2 ∧ RepL E ys vs2 ∧ (∀ u ∈ vs2, u.cells.size = sz ∧ ∀ c ∈ u.cells.toList, c.oneCell' = true) ∧ RowAt E.w b2 o2 (flat vs2)) := by
  unfold elemsOf at hel
  split at hel
  · rename_i ys' t
    injection hel with hel; subst hel
    refine ⟨fun e => ?_, fun hne hs => ?_⟩
    · subst e
      cases hy with
      | slE a cap _ _ => exact ⟨a, cap, rfl⟩
      | sl b o cap sz' g0 => exact absurd rfl g0
    · obtain ⟨b, o, cap, vs, h1, h2, h3, h4, _⟩ := sl_row hy hne hs
      exact ⟨b, o, cap, vs, h1, h2, h3, h4⟩
  · rename_i l g off n
    split at hel
    · rename_i sz' g' xs ho
      split at hel
      · rename_i hc
        injection hel with hel
        obtain ⟨rfl, hle⟩ := hc
        have hlen : ys.length = n := by rw [← hel]; simp; omega
        cases hy with
        | lsl h hone =>
          obtain ⟨sz2, g2, xs2, ho2, hg2, hcase⟩ := h
          rw [ho] at ho2; injection ho2 with ho2; injection ho2 with e1 e2 e3
          subst e1; subst e2; subst e3
          rcases hcase rfl with ⟨h0, a, rfl⟩ | ⟨b, cur, e', cap, p1, p2, rfl, p4, p5⟩
          · refine ⟨fun _ => ⟨a, 0, rfl⟩, fun hne => absurd (List.eq_nil_of_length_eq_zero (by omega)) hne⟩
          · refine ⟨fun e => ?_, fun hne hs => ?_⟩
            · rw [e] at hlen
              simp at hlen
              rw [← hlen]
              exact ⟨_, cap, rfl⟩
            · obtain ⟨h0, cur', e2, vs1, q1, q2, q3, q4⟩ := r.arrAt ho p1
              rw [p2] at q1; injection q1 with q1; injection q1 with q5 q6
              subst q5; subst q6
              have hz1 : ∀ u ∈ vs1, u.cells.size = sz' := fun u hu => (q3 u hu).1
              have hr : RepL E ys ((vs1.drop off).take n) := by rw [← hel]; exact (q2.drop off).take n
              have hf := hr.flat hs
              refine ⟨b, off * sz', cap, (vs1.drop off).take n, by rw [hlen], hr, hf, ?_⟩
              intro j c hj
              have hz2 : ∀ u ∈ vs1.drop off, u.cells.size = sz' := fun u hu => hz1 u (List.mem_of_mem_drop hu)
              rw [flat_take hz2, flat_drop hz1, List.getElem?_take] at hj
              split at hj
              · rw [List.getElem?_drop, ← q4, List.getElem?_take] at hj
                split at hj
                · rw [cell_of_row E.w b _ cur e' (0, 0) p2, ← Array.getElem?_toList]; exact hj
                · cases hj
              · cases hj
      · cases hel
    · cases hel
  · cases hel

theorem append_none {E : Env} {t ty e : TypeId} {i : TypeInfo} (ht : P.underlying t = some (.slice e)) (hi : P.info? e = some i) {a : Option Addr} {n cap : Nat} (h : n ≤ cap) {a2 : Option Addr} {c2 : Nat} :
    (Builtin.append_ #[t, t] ty #[.slice a n cap, .slice a2 0 c2]).run P E.w = .ok (.slice a n cap) E.w := by
  have hf : (Builtin.firstCells i.size 0 (.slice a2 0 c2)).run P E.w = .ok #[] E.w := by
    cases a2 <;> simp [Builtin.firstCells, loadCells, loadCellsFrom]
  cases a <;> simp [Builtin.append_, run_underlying ht, sizeOf, typeInfo, hi, Builtin.lenOf, h, hf, storeCells]

theorem append_room {E : Env} {t ty e : TypeId} {i : TypeInfo} (ht : P.underlying t = some (.slice e)) (hi : P.info? e = some i) {b n cap : Nat} {cur : Array Value} {et : TypeId} (hb : E.w.heap[b]? = some (.cells cur et (0, 0)))
    {b2 o2 m c2 : Nat} {news : List Value} (hl : news.length = m * i.size) (hnews : RowAt E.w b2 o2 news) (h1 : ∀ u ∈ news, u.oneCell' = true) (hroom : n + m ≤ cap) (hfit : cur.size = cap * i.size) :
    (Builtin.append_ #[t, t] ty #[.slice (some ⟨b, 0, none⟩) n cap, .slice (some ⟨b2, o2, none⟩) m c2]).run P E.w =
      .ok (.slice (some ⟨b, 0, none⟩) (n + m) cap) (E.w.setRow b (cur.toList.take (n * i.size) ++ news ++ cur.toList.drop (n * i.size + news.length)).toArray) := by
  have hfitn : n * i.size + news.length ≤ cur.size := by rw [hl, hfit, ← Nat.add_mul]; exact Nat.mul_le_mul_right _ hroom
  have hf := run_firstCells_some (P := P) E.w i.size m ⟨b2, o2, none⟩ m c2 news hl (fun j u hu => by rw [add_lit0]; exact hnews j u hu)
  have hst := run_storeCells_at P b (n * i.size) et news 0 cur E.w hb (by simpa using hfitn) h1
  simp only [Nat.add_zero] at hst
  have hadd : (⟨b, 0, none⟩ : Addr).add (n * i.size) = ⟨b, n * i.size, none⟩ := by rw [add_lit0]; simp
  simp [Builtin.append_, run_underlying ht, sizeOf, typeInfo, hi, Builtin.lenOf, hroom, hf, hadd, hst]

theorem rep_tok {E : Env} {b cap sz k : Nat} {xs ys : List AV} {vs us : List Value} (hne : ys ≠ []) (hx : RepL E xs vs) (hy : RepL E ys us) (x2 : ∀ u ∈ vs, u.cells.size = sz ∧ ∀ c ∈ u.cells.toList, c.oneCell' = true)
    (y2 : ∀ u ∈ us, u.cells.size = sz ∧ ∀ c ∈ u.cells.toList, c.oneCell' = true) (h0 : 0 < sz) (row : RowAt E.w b 0 (flat vs ++ flat us)) (hF : E.F b ((xs.length + ys.length) * sz)) (hcap : xs.length + ys.length ≤ cap)
    (hG : E.G[k]? = some ((xs.length + ys.length) * sz)) (htk : E.tk k = b) {cur : Array Value} {e : TypeId} (hb : E.w.heap[b]? = some (.cells cur e (0, 0))) (hcs : cur.size = cap * sz) :
    Rep E (.sl (xs ++ ys) (.tok k)) (.slice (some ⟨b, 0, none⟩) (xs.length + ys.length) cap) := by
  have hlen : (xs ++ ys).length = xs.length + ys.length := List.length_append
  have := Rep.sl (E := E) (t := .tok k) b 0 cap sz (xs := xs ++ ys) (vs := vs ++ us) (by simp [hne]) (hx.append hy)
    (fun u hu => (List.mem_append.1 hu).elim (fun h => (x2 u h).1) (fun h => (y2 u h).1)) h0
    (by rw [flat_append]; exact row) ⟨_, Nat.le_refl _, by rw [hlen, Nat.zero_add]; exact hF⟩ (by rw [hlen]; exact hcap)
    ⟨(xs.length + ys.length) * sz, hG, by rw [hlen]; exact Nat.le_refl _, fun _ => ⟨htk, rfl, cur, e, hb, hcs⟩⟩
  rwa [hlen] at this

set_option maxHeartbeats 1000000 in
theorem done_app_sl {E : Env} (r : R E) {t ty e : TypeId} {i : TypeInfo} {z : Value} {sz bytes : Nat} (ht : P.underlying t = some (.slice e)) (hi : P.info? e = some i) (hsz : i.size = sz) (hby : i.bytes = bytes) (hz : i.zero = some z) (hzs : z.cells.size = sz) (h0 : 0 < sz)
    {xs : List AV} {tl : Tail} {y : AV} {u v : Value} (hx : Rep E (.sl xs tl) u) (hy : Rep E y v) (hok : (evApp sz bytes E.O E.G (.sl xs tl) y).ok) :
    Done E (evApp sz bytes E.O E.G (.sl xs tl) y) ((Builtin.append_ #[t, t] ty #[u, v]).run P E.w) := by
  subst hsz; subst hby
  unfold evApp at hok ⊢
  cases hel : elemsOf E.O y with
  | none => rw [hel] at hok; exact hok.elim
  | some ys =>
  rw [hel] at hok
  obtain ⟨src1, src2⟩ := src_row (sz := i.size) r hy hel
  dsimp only at hok ⊢
  by_cases hys : ys = []
  · subst hys
    have hv := src1 rfl
    obtain ⟨a2, c2, rfl⟩ := hv
    have hu : ∃ a n cap, u = .slice a n cap ∧ n ≤ cap := by
      cases hx with
      | slE a cap _ _ => exact ⟨a, 0, cap, rfl, Nat.zero_le _⟩
      | sl b o cap sz' g0 g1 g2 g3 g4 g5 g6 g7 => exact ⟨_, _, cap, rfl, g6⟩
    obtain ⟨a, n, cap, rfl, hle⟩ := hu
    have hr := append_none (P := P) (E := E) (ty := ty) ht hi hle (a := a) (a2 := a2) (c2 := c2)
    cases tl with
    | full => simpa using Done.same r hr hx
    | tok k =>
      dsimp only at hok ⊢
      simp only [List.append_nil, List.length_nil, Nat.add_zero] at hok ⊢
      exact ⟨_, E, hr, r, Ext.refl E, hx, rfl, (set_same hok.1).symm⟩
    | shut => exact hok.elim
  · have hyl : 0 < ys.length := List.length_pos_iff.2 hys
    have hemp : ys.isEmpty = false := by cases ys <;> simp_all
    cases tl with
    | shut => exact hok.elim
    | full =>
      dsimp only at hok ⊢
      obtain ⟨hsx, hsy, hfit, hbd⟩ := hok
      obtain ⟨b2, o2, c2, vs2, rfl, y1, y2, y3⟩ := src2 hys hsy
      have hl2 := size_of_flat y2
      rw [y1.length] at hl2
      simp only [hemp, Bool.false_eq_true, if_false]
      have key : ∀ (a : Option Addr) (cap : Nat) (vs1 : List Value), u = .slice a xs.length cap → cap = xs.length → RepL E xs vs1 → (∀ u ∈ vs1, u.cells.size = i.size ∧ ∀ c ∈ u.cells.toList, c.oneCell' = true) →
          (∀ ad, a = some ad → ∀ j v, (flat vs1)[j]? = some v → E.w.cell? (ad.add j) = some v) → (a = none → xs.length = 0) →
          Done E ⟨(∀ x ∈ xs, szOK i.size x = true) ∧ (∀ y ∈ ys, szOK i.size y = true) ∧ (xs.length + ys.length) * i.bytes ≤ 140737488355328 ∧ xs.length + ys.length ≤ 140737488355328, .sl (xs ++ ys) (.tok E.G.length), E.O, E.G ++ [(xs.length + ys.length) * i.size]⟩
            ((Builtin.append_ #[t, t] ty #[u, .slice (some ⟨b2, o2, none⟩) ys.length c2]).run P E.w) := by
        intro a cap vs1 hu hcap x1 x2 x3 hnil
        subst hu
        have hl1 := size_of_flat x2
        rw [x1.length] at hl1
        obtain ⟨ncap, cur, w', k1, k2, k3, k4, k5, k6, k7⟩ := run_grow (P := P) (E := E) (ty := ty) ht hi hz hzs hl1 x3 (cap := cap) (fun h => ⟨hnil h, by rw [hcap]; exact hnil h⟩) (c2 := c2) hl2 y3 hyl (by omega) hfit hbd
        have hcur : (xs.length + ys.length) * i.size ≤ cur.size := by rw [k4]; exact Nat.mul_le_mul_right _ k5
        have xx := Env.newtok_ext r ((xs.length + ys.length) * i.size) k2
        refine ⟨_, E.newtok w' ((xs.length + ys.length) * i.size), k1, Env.newtok_R r k2 k3 hcur, xx, ?_, rfl, rfl⟩
        exact rep_tok hys (x1.mono xx) (y1.mono xx) x2 y2 h0 (rowAt_arr k3 k6) (.inr ⟨rfl, Nat.le_refl _⟩) k5 getElem?_snoc_self (updN_same _ _ _) k3 k4
      cases hx with
      | slE a cap g1 _ =>
        obtain rfl := g1 rfl
        exact key a 0 [] rfl rfl .nil (by simp) (by intro ad _ j v hv; simp [flat] at hv) (fun _ => rfl)
      | @sl _ _ vs1 b o cap sz' g0 g1 g2 g3 g4 g5 g6 g7 =>
        obtain ⟨b', o', cap', vs', e1, x1, x2, x3, x4, x5⟩ := sl_row (.sl (t := .full) b o cap sz' g0 g1 g2 g3 g4 g5 g6 g7) g0 hsx
        injection e1 with e1 e2 e3
        subst e3
        injection e1 with e1; injection e1 with e4 e5
        subst e4; subst e5
        exact key _ cap vs' rfl g7 x1 x2 (by intro ad had j v hv; injection had with had; subst had; rw [add_lit0]; exact x3 j v hv) (by intro h; cases h)
    | tok k =>
      dsimp only at hok ⊢
      obtain ⟨hG, hsx, hsy, hfit, hbd⟩ := hok
      obtain ⟨b2, o2, c2, vs2, rfl, y1, y2, y3⟩ := src2 hys hsy
      have hl2 := size_of_flat y2
      rw [y1.length] at hl2
      have hxne : xs ≠ [] := by
        cases hx with
        | slE a cap _ g2 => exact absurd rfl (g2 k)
        | sl b o cap sz' g0 => exact g0
      obtain ⟨b, o, cap, vs1, rfl, x1, x2, x3, x4, x5⟩ := sl_row hx hxne hsx
      have hl1 := size_of_flat x2
      rw [x1.length] at hl1
      obtain ⟨m0, hm0, hle0, htail⟩ := x5
      rw [hG] at hm0; injection hm0 with hm0; subst hm0
      obtain ⟨htk, rfl, cur0, e0, hb0, hcs0⟩ := htail rfl
      have hlen : (xs ++ ys).length = xs.length + ys.length := List.length_append
      have hadd : (xs.length + ys.length) * i.size = xs.length * i.size + ys.length * i.size := Nat.add_mul _ _ _
      have hpos : 0 < ys.length * i.size := Nat.mul_pos hyl h0
      by_cases hroom : xs.length + ys.length ≤ cap
      · -- where it lies
        have hr := append_room (P := P) (E := E) (ty := ty) ht hi hb0 (n := xs.length) (c2 := c2) hl2 y3 (flat_one fun v hv => (y2 v hv).2) hroom hcs0
        have hfitn : xs.length * i.size + (flat vs2).length ≤ cur0.size := by rw [hl2, hcs0, ← Nat.add_mul]; exact Nat.mul_le_mul_right _ hroom
        generalize hnew : (cur0.toList.take (xs.length * i.size) ++ flat vs2 ++ cur0.toList.drop (xs.length * i.size + (flat vs2).length)).toArray = new at hr
        have hnsz : new.size = cur0.size := by subst hnew; simp; omega
        have htake : cur0.toList.take (xs.length * i.size) = flat vs1 := by
          apply List.ext_getElem?
          intro j
          rw [List.getElem?_take]
          split
          · rename_i hj
            have hj2 : j < (flat vs1).length := by omega
            have := x3 j _ (List.getElem?_eq_getElem hj2)
            rw [Nat.zero_add, cell_of_row E.w b j cur0 e0 (0, 0) hb0] at this
            rw [List.getElem?_eq_getElem hj2, ← this]
            simp
          · rename_i hj
            rw [List.getElem?_eq_none (by omega)]
        have ht' : Turn E (E.w.setRow b new) (E.tk k) := by rw [htk]; exact Turn.setRow new
        have hs' : SameSize E.w (E.w.setRow b new) (E.tk k) := by rw [htk]; exact SameSize.setRow hb0 hnsz
        have hb' : (E.w.setRow b new).heap[b]? = some (.cells new e0 (0, 0)) := setRow_heap E.w b _ _ e0 (0, 0) hb0
        have hcell : ∀ j, j < xs.length * i.size → (E.w.setRow b new).cell? ⟨E.tk k, j, none⟩ = E.w.cell? ⟨E.tk k, j, none⟩ := by
          intro j hj
          rw [htk, cell_of_row _ b j new e0 (0, 0) hb', cell_of_row _ b j cur0 e0 (0, 0) hb0]
          subst hnew
          have : (cur0.toList.take (xs.length * i.size) ++ flat vs2 ++ cur0.toList.drop (xs.length * i.size + (flat vs2).length))[j]? = cur0.toList[j]? := by
            rw [List.append_assoc, List.getElem?_append_left (by simp; omega), List.getElem?_take, if_pos hj]
          simpa using this
        have xx := Env.growtok_ext (m := (xs.length + ys.length) * i.size) r hG (by omega) ht' hs' hcell
        refine ⟨_, E.growtok (E.w.setRow b new) k ((xs.length + ys.length) * i.size), hr, Env.growtok_R r hG (by omega) ht' hs' hcell (by rw [htk]; exact hb') (by rw [hnsz]; omega), xx, ?_, rfl, rfl⟩
        have hnt : new.toList.take ((xs.length + ys.length) * i.size) = flat (vs1 ++ vs2) := by
          subst hnew
          rw [flat_append, ← htake]
          simp only [List.toList_toArray]
          rw [hadd, ← hl2]
          have e1 : (cur0.toList.take (xs.length * i.size)).length = xs.length * i.size := by simp; omega
          rw [show xs.length * i.size + (flat vs2).length = (cur0.toList.take (xs.length * i.size) ++ flat vs2).length from by simp [e1], List.take_left]
        rw [flat_append] at hnt
        exact rep_tok hys (x1.mono xx) (y1.mono xx) x2 y2 h0 (rowAt_arr hb' hnt) (.inr ⟨htk.symm, Nat.le_refl _⟩) hroom (get_set_self hG) htk hb' (by rw [hnsz]; exact hcs0)
      · -- into a new block
        obtain ⟨ncap, cur, w', k1, k2, k3, k4, k5, k6, k7⟩ := run_grow (P := P) (E := E) (ty := ty) ht hi hz hzs hl1 (a := some ⟨b, 0, none⟩) (cap := cap) (by intro ad had j v hv; injection had with had; subst had; rw [add_lit0]; exact x3 j v hv) (fun h => by cases h) (c2 := c2) hl2 y3 hyl (by omega) hfit hbd
        have hcur : (xs.length + ys.length) * i.size ≤ cur.size := by rw [k4]; exact Nat.mul_le_mul_right _ k5
        have xx := Env.movetok_ext (m := (xs.length + ys.length) * i.size) r hG (by omega) k2
        refine ⟨_, E.movetok w' k ((xs.length + ys.length) * i.size), k1, Env.movetok_R r hG (by omega) k2 k3 hcur, xx, ?_, rfl, rfl⟩
        exact rep_tok hys (x1.mono xx) (y1.mono xx) x2 y2 h0 (rowAt_arr k3 k6) (.inr ⟨rfl, Nat.le_refl _⟩) k5 (get_set_self hG) (updN_same _ _ _) k3 k4

/-- A row's first elements. -/
theorem take_row {cur : List Value} {vs : List Value} {sz n k : Nat} (h : cur.take (k * sz) = flat vs) (hv : ∀ u ∈ vs, u.cells.size = sz) (hn : n ≤ k) : cur.take (n * sz) = flat (vs.take n) := by
  rw [flat_take hv, ← h, List.take_take, Nat.min_eq_left (Nat.mul_le_mul_right sz hn)]

set_option maxHeartbeats 1000000 in
theorem done_app_lsl {E : Env} (r : R E) {t ty e : TypeId} {i : TypeInfo} {z : Value} {sz bytes : Nat} (ht : P.underlying t = some (.slice e)) (hi : P.info? e = some i) (hsz : i.size = sz) (hby : i.bytes = bytes) (hz : i.zero = some z) (hzs : z.cells.size = sz) (h0 : 0 < sz)
    {l g off n : Nat} {y : AV} {u v : Value} (hx : Rep E (.lsl l g off n) u) (hy : Rep E y v) (hok : (evApp sz bytes E.O E.G (.lsl l g off n) y).ok) :
    Done E (evApp sz bytes E.O E.G (.lsl l g off n) y) ((Builtin.append_ #[t, t] ty #[u, v]).run P E.w) := by
  subst hsz; subst hby
  cases hx with
  | lsl h hone =>
  have hx0 : Rep E (.lsl l g off n) u := .lsl h hone
  obtain ⟨sz', g0, xs, ho, hg, hcase⟩ := h
  unfold evApp at hok ⊢
  cases hel : elemsOf E.O y with
  | none => rw [hel] at hok; exact hok.elim
  | some ys =>
    rw [hel] at hok
    simp only [ho] at hok ⊢
    obtain ⟨src1, src2⟩ := src_row (sz := i.size) r hy hel
    obtain ⟨rfl, rfl, rfl, hn, hsx, hsy, hfit, hbd⟩ := hok
    have hu : ∃ a cap, u = .slice a n cap ∧ n ≤ cap := by
      rcases hcase rfl with ⟨rfl, a, rfl⟩ | ⟨b, cur, e', cap, p1, p2, p3, p4, p5⟩
      · exact ⟨a, 0, rfl, Nat.le_refl _⟩
      · exact ⟨_, cap, p3, p4⟩
    by_cases hys : ys = []
    · subst hys
      have hv := src1 rfl
      obtain ⟨a2, c2, rfl⟩ := hv
      obtain ⟨a, cap, rfl, hle⟩ := hu
      have hr := append_none (P := P) (E := E) (ty := ty) ht hi hle (a := a) (a2 := a2) (c2 := c2)
      simpa using Done.same r hr hx0
    · have hyl : 0 < ys.length := List.length_pos_iff.2 hys
      have hemp : ys.isEmpty = false := by cases ys <;> simp_all
      obtain ⟨b2, o2, c2, vs2, rfl, y1, y2, y3⟩ := src2 hys hsy
      have hl2 := size_of_flat y2
      rw [y1.length] at hl2
      simp only [hemp, Bool.false_eq_true, if_false]
      have hpos : 0 < ys.length * i.size := Nat.mul_pos hyl h0
      have hlen : ((xs.take n) ++ ys).length = n + ys.length := by simp; omega
      -- the new row lies in a new block
      have moved : ∀ (a : Option Addr) (cap : Nat) (vs1 : List Value), u = .slice a n cap → cap < n + ys.length → RepL E (xs.take n) vs1 → (∀ u ∈ vs1, u.cells.size = i.size ∧ ∀ c ∈ u.cells.toList, c.oneCell' = true) →
          (∀ ad, a = some ad → ∀ j v, (flat vs1)[j]? = some v → E.w.cell? (ad.add j) = some v) → (a = none → n = 0 ∧ cap = 0) → ∀ (ok : Prop),
          Done E ⟨ok, .lsl l (g0 + 1) 0 (n + ys.length), E.O.set l (.arr i.size (g0 + 1) (xs.take n ++ ys)), E.G⟩
            ((Builtin.append_ #[t, t] ty #[u, .slice (some ⟨b2, o2, none⟩) ys.length c2]).run P E.w) := by
        intro a cap vs1 hu hcap x1 x2 x3 hnil ok
        subst hu
        have hl1 := size_of_flat x2
        rw [x1.length, List.length_take, Nat.min_eq_left hn] at hl1
        obtain ⟨ncap, cur, w', k1, k2, k3, k4, k5, k6, k7⟩ := run_grow (P := P) (E := E) (ty := ty) ht hi hz hzs hl1 x3 hnil (c2 := c2) hl2 y3 hyl hcap hfit hbd
        have xx := Env.move_ext (xs' := xs.take n ++ ys) r ho k2
        have hpl : (E.move w' l (.arr i.size (g0 + 1) (xs.take n ++ ys))).pl l = some E.w.heap.size := updN_same _ _ _
        refine ⟨_, E.move w' l (.arr i.size (g0 + 1) (xs.take n ++ ys)), k1, Env.move_R r ho k2 k7 ⟨h0, .inr ⟨_, cur, e, vs1 ++ vs2, hpl, k3, (x1.mono xx).append (y1.mono xx), ?_, ?_⟩⟩, xx, ?_, rfl, rfl⟩
        · intro u hu; exact (List.mem_append.1 hu).elim (x2 u) (y2 u)
        · rw [flat_append, hlen]; exact k6
        · exact .lsl ⟨i.size, g0 + 1, _, get_set_self ho, Nat.le_refl _, fun _ => .inr ⟨_, cur, e, ncap, hpl, k3, by simp, k5, by simpa using k4⟩⟩ rfl
      rcases hcase rfl with ⟨rfl, a, rfl⟩ | ⟨b, cur, e', cap, p1, p2, rfl, p4, p5⟩
      · exact moved a 0 [] rfl (by omega) (by simpa using RepL.nil) (by simp) (by intro ad _ j v hv; simp [flat] at hv) (fun _ => ⟨rfl, rfl⟩) _
      · simp only [Nat.zero_mul, Nat.zero_add] at p5 hx0
        obtain ⟨_, cur', e2, vs1, q1, q2, q3, q4⟩ := r.arrAt ho p1
        rw [p2] at q1; injection q1 with q1; injection q1 with q5 q6
        subst q5; subst q6
        have hsz1 : ∀ u ∈ vs1, u.cells.size = i.size := fun u hu => (q3 u hu).1
        have htn : cur.toList.take (n * i.size) = flat (vs1.take n) := take_row q4 hsz1 hn
        have x1 : RepL E (xs.take n) (vs1.take n) := q2.take n
        have x2 : ∀ u ∈ vs1.take n, u.cells.size = i.size ∧ ∀ c ∈ u.cells.toList, c.oneCell' = true := fun u hu => q3 u (List.mem_of_mem_take hu)
        have x3 : RowAt E.w b 0 (flat (vs1.take n)) := rowAt_arr p2 htn
        by_cases hroom : n + ys.length ≤ cap
        · have hr := append_room (P := P) (E := E) (ty := ty) ht hi p2 (n := n) (c2 := c2) hl2 y3 (flat_one fun v hv => (y2 v hv).2) hroom p5
          have hfitn : n * i.size + (flat vs2).length ≤ cur.size := by rw [hl2, p5, ← Nat.add_mul]; exact Nat.mul_le_mul_right _ hroom
          generalize hnew : (cur.toList.take (n * i.size) ++ flat vs2 ++ cur.toList.drop (n * i.size + (flat vs2).length)).toArray = new at hr
          have hnsz : new.size = cur.size := by subst hnew; simp; omega
          have ht' : Turn E (E.w.setRow b new) b := Turn.setRow new
          have hs' : SameSize E.w (E.w.setRow b new) b := SameSize.setRow p2 hnsz
          have hb' : (E.w.setRow b new).heap[b]? = some (.cells new e' (0, 0)) := setRow_heap E.w b _ _ e' (0, 0) p2
          have hle : AO.le (.arr i.size g0 xs) (.arr i.size (g0 + 1) (xs.take n ++ ys)) := ⟨rfl, Nat.le_succ g0⟩
          have hk := KeysKept.write (o' := .arr i.size (g0 + 1) (xs.take n ++ ys)) r (lt_of_get ho) p1 ht' (by intro g es e; rw [ho] at e; cases e)
          have xx := Env.write_ext r ho p1 ht' hle hs' hk
          have hnt : new.toList.take ((n + ys.length) * i.size) = flat (vs1.take n ++ vs2) := by
            subst hnew
            rw [flat_append, ← htn]
            simp only [List.toList_toArray]
            rw [Nat.add_mul, ← hl2]
            have e1 : (cur.toList.take (n * i.size)).length = n * i.size := by simp; omega
            rw [show n * i.size + (flat vs2).length = (cur.toList.take (n * i.size) ++ flat vs2).length from by simp [e1], List.take_left]
          have hu : (Value.slice (some ⟨b, 0 * i.size, none⟩) n cap) = .slice (some ⟨b, 0, none⟩) n cap := by simp
          rw [hu]
          refine ⟨_, E.write (E.w.setRow b new) l (.arr i.size (g0 + 1) (xs.take n ++ ys)), hr, Env.write_R r ho p1 ht' hle hs' hk ⟨h0, .inr ⟨b, new, e', vs1.take n ++ vs2, p1, hb', (x1.mono xx).append (y1.mono xx), ?_, ?_⟩⟩, xx, ?_, rfl, rfl⟩
          · intro u hu; exact (List.mem_append.1 hu).elim (x2 u) (y2 u)
          · rw [hlen]; exact hnt
          · exact .lsl ⟨i.size, g0 + 1, _, get_set_self ho, Nat.le_refl _, fun _ => .inr ⟨b, new, e', cap, p1, hb', by simp, hroom, by rw [hnsz, p5]; simp⟩⟩ rfl
        · have hu : (Value.slice (some ⟨b, 0 * i.size, none⟩) n cap) = .slice (some ⟨b, 0, none⟩) n cap := by simp
          rw [hu] at moved ⊢
          exact moved (some ⟨b, 0, none⟩) cap (vs1.take n) rfl (by omega) x1 x2 (by intro ad had j v hv; injection had with had; subst had; rw [add_lit0]; exact x3 j v hv) (fun h => by cases h) _

theorem done_appN {E : Env} (r : R E) {t ty e : TypeId} {i : TypeInfo} {z : Value} {sz bytes : Nat} (ht : P.underlying t = some (.slice e)) (hi : P.info? e = some i) (hsz : i.size = sz) (hby : i.bytes = bytes) (hz : i.zero = some z) (hzs : z.cells.size = sz) (h0 : 0 < sz)
    {x y : AV} {u v : Value} (hx : Rep E x u) (hy : Rep E y v) (hok : (evAppN sz bytes E.O E.G x y).ok) :
    Done E (evAppN sz bytes E.O E.G x y) ((Builtin.append_ #[t, t] ty #[u, v]).run P E.w) := by
  unfold evAppN at hok ⊢
  split at hok
  · have hu : ∃ a, u = .slice a 0 0 := by
      cases hx with
      | slE a cap g1 _ => exact ⟨a, by rw [g1 rfl]⟩
      | sl b o cap sz' g0 => exact absurd rfl g0
    obtain ⟨a, rfl⟩ := hu
    have x1 := Env.newnil_ext r sz
    have r1 := Env.newnil_R r (sz := sz) h0
    have hx1 : Rep (E.newnil sz) (.lsl E.O.length 0 0 0) (.slice a 0 0) := .lsl ⟨sz, 0, [], getElem?_snoc_self, Nat.le_refl _, fun _ => .inl ⟨rfl, a, rfl⟩⟩ rfl
    obtain ⟨v', E', k1, k2, k3, k4, k5, k6⟩ := done_app_lsl (P := P) (ty := ty) r1 ht hi hsz hby hz hzs h0 hx1 (hy.mono x1) hok.2
    exact ⟨v', E', k1, k2, x1.trans k3, k4, k5, k6⟩
  · cases x with
    | sl xs tl => exact done_app_sl r ht hi hsz hby hz hzs h0 hx hy hok
    | lsl l g off m => exact done_app_lsl r ht hi hsz hby hz hzs h0 hx hy hok
    | _ => unfold evApp at hok; split at hok <;> exact hok.elim

theorem madeCells_take {z : Value} {sz l c : Nat} (hz : z.cells.size = sz) (h0 : 0 < sz) (hle : l ≤ c) : (madeCells z.cells (c * sz)).toList.take (l * sz) = flat (List.replicate l z) := by
  apply List.ext_getElem?
  intro j
  have hmul : l * sz ≤ c * sz := Nat.mul_le_mul_right sz hle
  have hfl : ∀ l, (flat (List.replicate l z)).length = l * sz := fun l => by
    rw [length_flat (sz := sz) (fun u hu => by rw [List.eq_of_mem_replicate hu]; exact hz), List.length_replicate]
  have hget : ∀ (l j : Nat), j < l * sz → (flat (List.replicate l z))[j]? = z.cells[j % sz]? := by
    intro l
    induction l with
    | zero => intro j hj; simp at hj
    | succ l ih =>
      intro j hj
      rw [Nat.succ_mul] at hj
      simp only [flat, List.replicate_succ, List.flatMap_cons] at ih ⊢
      by_cases hjs : j < sz
      · rw [List.getElem?_append_left (by simp [hz]; exact hjs), Nat.mod_eq_of_lt hjs]; simp
      · rw [List.getElem?_append_right (by simp [hz]; omega)]
        simp only [Array.length_toList, hz]
        rw [ih (j - sz) (by omega)]
        congr 1
        exact (Nat.mod_eq_sub_mod (by omega)).symm
  rw [List.getElem?_take]
  split
  · rename_i hj
    rw [hget l j hj]
    have : j < c * sz := by omega
    simp [madeCells, this, hz]
    rw [getElem!_pos z.cells (j % sz) (by rw [hz]; exact Nat.mod_lt _ h0), Array.getElem?_eq_getElem (by rw [hz]; exact Nat.mod_lt _ h0)]
  · rename_i hj
    rw [List.getElem?_eq_none (by rw [hfl]; omega)]

theorem done_mksl {E : Env} (r : R E) {t e : TypeId} {i : TypeInfo} {z : Value} {za : AV} {sz bytes : Nat} (ht : P.underlying t = some (.slice e)) (hi : P.info? e = some i) (hsz : i.size = sz) (hby : i.bytes = bytes) (hz : i.zero = some z) (hza : ofC z = some za)
    (hzs : szOK sz za = true) (h0 : 0 < sz) {l c : AV} {u v : Value} (hl : Rep E l u) (hc : Rep E c v) (hok : (evMksl za sz bytes E.O E.G l c).ok) :
    Done E (evMksl za sz bytes E.O E.G l c) ((Instr.makeSlice t u v).run P E.w) := by
  subst hsz; subst hby
  unfold evMksl at hok ⊢
  split at hok
  · rename_i l' c'
    obtain rfl := rep_v hl; obtain rfl := rep_v hc
    obtain ⟨h1, h2, h3, h4⟩ := hok
    have hzr := ofC_rep hza E
    obtain ⟨c1, c2, c3⟩ := hzr.cells hzs
    have hr := run_make (P := P) E.w t e i z ht hi hz .i64 .i64 l' c' h1 h2 (by rw [Int.mul_comm]; omega) (by omega)
    have hpl : (E.newloc (.arr i.size 0 (List.replicate l'.toNat za)) (.cells (madeCells z.cells (c'.toNat * i.size)) e)).pl E.O.length = some E.w.heap.size := updN_same _ _ _
    have xx := Env.newloc_ext r (.arr i.size 0 (List.replicate l'.toNat za)) (.cells (madeCells z.cells (c'.toNat * i.size)) e)
    refine Done.newloc r hr ⟨h0, .inr ⟨_, _, e, List.replicate l'.toNat z, hpl, heap_alloc_new _ _, (RepL.replicate hzr _).mono xx, ?_, ?_⟩⟩ ?_
    · intro u hu; rw [List.eq_of_mem_replicate hu]; exact ⟨c1, c3⟩
    · rw [List.length_replicate]; exact madeCells_take c1 h0 (by omega)
    · exact .lsl ⟨i.size, 0, _, getElem?_snoc_self, Nat.le_refl _, fun _ => .inr ⟨_, _, e, c'.toNat, hpl, heap_alloc_new _ _, by simp, by omega, by simp [size_madeCells]⟩⟩ rfl
  · exact hok.elim

theorem done_mm {E : Env} (r : R E) {mx : Bool} {x y : AV} {u v : Value} (hx : Rep E x u) (hy : Rep E y v) (hok : (evMM mx E.O E.G x y).ok) {ats : Array TypeId} {ty : TypeId} :
    Done E (evMM mx E.O E.G x y) ((if mx then Builtin.max_ ats ty #[u, v] else Builtin.min_ ats ty #[u, v]).run P E.w) := by
  unfold evMM at hok ⊢
  split at hok
  · obtain rfl := rep_v hx; obtain rfl := rep_v hy
    cases mx
    · exact Done.same r (by simp [Builtin.min_, Builtin.min2, mm1]) (.v _)
    · exact Done.same r (by simp [Builtin.max_, Builtin.max2, mm1]) (.v _)
  · exact hok.elim
end
end Go.VL
