/- Value logic, part 13: maps that are written. -/
import Derived.Test.YtohccdodnpkpfaaVl12
set_option linter.unusedVariables false
set_option linter.unusedSimpArgs false
namespace Go.VL
open Go.RowKit

theorem sameBits_leaf {l : Leaf} {a b : Value} {r : Bool} (h : leafEq l a b = some r) (n : Nat) : Instr.sameBits n a a = true := by
  unfold leafEq at h
  split at h
  · cases n <;> simp [Instr.sameBits]
  · cases n <;> simp [Instr.sameBits]
  · cases n <;> simp [Instr.sameBits, bytes_beq]
  · cases h
theorem sameBits_leaves : ∀ {ls : List Leaf} {xs : List Value} {r : Bool}, leavesEq ls xs xs = some r → ∀ n, (xs.zip xs).all (fun (x, y) => Instr.sameBits n x y) = true
  | [], [], _, _, n => rfl
  | [], _ :: _, _, h, _ => by simp [leavesEq] at h
  | _ :: _, [], _, h, _ => by simp [leavesEq] at h
  | l :: ls, x :: xs, r, h, n => by
    simp only [leavesEq] at h
    split at h
    · rename_i a b h1 h2
      simp only [List.zip_cons_cons, List.all_cons, sameBits_leaf h1 n, sameBits_leaves h2 n, Bool.and_self]
    · cases h
theorem sameBits_key {ks : KS} {x : Value} (hx : KeyVal ks.ag x) {r : Bool} (h : kEq ks x x = some r) : Instr.sameBits 10000 x x = true := by
  have h1 := (kEq_iff hx h).1
  by_cases hag : ks.ag = true
  · obtain ⟨xs, rfl⟩ := hx.1 hag
    simp only [cellsL, List.toList_toArray] at h1
    have := sameBits_leaves h1 9999
    simp only [Instr.sameBits, beq_self_eq_true, Bool.true_and, List.toList_toArray]
    exact this
  · have ho := hx.2 (by simpa using hag)
    have ex : cellsL x = [x] := by cases x <;> simp_all [cellsL, Value.oneCell']
    rw [ex] at h1
    have := sameBits_leaves h1 10000
    simpa using this

theorem keys_setM {ls : List Leaf} {k : Value} {x : AV} : ∀ {es : List (Value × AV)}, (∃ p ∈ es, leavesEq ls (cellsL k) (cellsL p.1) = some true) → (setM ls k x es).map Prod.fst = es.map Prod.fst
  | [], h => by obtain ⟨p, hp, _⟩ := h; cases hp
  | (k', a) :: es, h => by
    simp only [setM]
    split
    · rfl
    · rename_i hne
      obtain ⟨p, hp, hq⟩ := h
      rcases List.mem_cons.1 hp with rfl | hp
      · exact absurd hq hne
      · simp [keys_setM ⟨p, hp, hq⟩]

theorem setM_rep {E : Env} {ks : KS} {k : Value} (hk : KeyVal ks.ag k) {x : AV} {xv : Value} (hx : Rep E x xv) : ∀ {es : List (Value × AV)} {ces : List MapEntry} (h : RepE E es ces) (i : Nat) {j : Nat} {c : MapEntry}, idxE ks.ls k ces i = some (i + j, c) →
    RepE E (setM ks.ls k x es) (ces.set j { c with val := xv }) ∧ ces[j]? = some c ∧ ∃ p ∈ es, leavesEq ks.ls (cellsL k) (cellsL p.1) = some true
  | [], [], _, i, j, c, h => by simp [idxE] at h
  | (k', a) :: es, c0 :: ces, .cons h1 h2 h3, i, j, c, h => by
    subst h1
    simp only [idxE] at h
    simp only [setM]
    split at h
    · rename_i hq
      injection h with h; injection h with e1 e2
      obtain rfl : j = 0 := by omega
      subst e2
      rw [if_pos hq]
      exact ⟨.cons rfl hx h3, rfl, (c0.key, a), by simp, hq⟩
    · rename_i hq
      obtain ⟨j, rfl⟩ : ∃ m, j = m + 1 := by
        have hge : ∀ (l : List MapEntry) (a : Nat) (p : Nat × MapEntry), idxE ks.ls k l a = some p → a ≤ p.1 := by
          intro l
          induction l with
          | nil => intro a p h; simp [idxE] at h
          | cons e l ih =>
            intro a p h
            simp only [idxE] at h
            split at h
            · injection h with h; subst h; exact Nat.le_refl _
            · have := ih _ _ h; omega
        have := hge _ _ _ h
        exact ⟨j - 1, by simp at this; omega⟩
      rw [if_neg hq]
      obtain ⟨k1, k2, p, k3, k4⟩ := setM_rep hk hx h3 (i + 1) (j := j) (c := c) (by rw [h]; congr 2; omega)
      exact ⟨.cons rfl h2 k1, by simpa using k2, p, by simp [k3], k4⟩

theorem toList_modify {es : Array MapEntry} {j : Nat} {c : MapEntry} (h : es.toList[j]? = some c) (f : MapEntry → MapEntry) : (es.modify j f).toList = es.toList.set j (f c) := by
  apply List.ext_getElem?
  intro i
  rw [Array.getElem?_toList, Array.getElem?_modify, List.getElem?_set]
  split
  · rename_i e; subst e
    rw [← Array.getElem?_toList, h]
    have := lt_of_get h
    simp at this
    simp [this]
  · simp

theorem map_set_same {α β : Type} {l : List α} {j : Nat} {c c' : α} (h : l[j]? = some c) (f : α → β) (hf : f c' = f c) : (l.set j c').map f = l.map f := by
  apply List.ext_getElem?
  intro i
  simp only [List.getElem?_map, List.getElem?_set]
  split
  · rename_i e; subst e
    simp [lt_of_get h, h, hf]
    rw [List.getElem?_eq_getElem (lt_of_get h)] at h
    simpa using congrArg f (Option.some.inj h).symm
  · rfl

theorem pairwise_set {l : List MapEntry} {j : Nat} {c c' : MapEntry} (h : l[j]? = some c) (hb : c'.born = c.born) (hp : l.Pairwise fun a b => a.born < b.born) : (l.set j c').Pairwise fun a b => a.born < b.born := by
  have e := map_set_same h (·.born) hb
  rw [← List.pairwise_map (f := fun x : MapEntry => x.born) (R := (· < ·))] at hp ⊢
  rw [e]; exact hp

theorem born_set {l : List MapEntry} {j : Nat} {c c' : MapEntry} {clk : Nat} (h : l[j]? = some c) (hb : c'.born = c.born) (hp : ∀ c ∈ l, c.born < clk) : ∀ x ∈ l.set j c', x.born < clk := by
  intro x hx
  rcases List.mem_or_eq_of_mem_set hx with hx | rfl
  · exact hp x hx
  · rw [hb]; exact hp c (List.mem_of_getElem? h)

theorem not_mem_keys {ks : KS} {k : Value} (hk : KeyVal ks.ag k) : ∀ {es : List (Value × AV)}, findM ks k es = some none → k ∉ es.map Prod.fst
  | [], _ => by simp
  | (k', a) :: es, h => by
    simp only [findM] at h
    split at h
    · cases h
    · rename_i hq
      have := (kEq_iff hk hq).2.2
      simp only [List.map_cons, List.mem_cons, not_or]
      exact ⟨fun e => by simpa using this.2 e, not_mem_keys hk h⟩
    · cases h

theorem RepE.snoc {E : Env} {k : Value} {a : AV} {c : MapEntry} : ∀ {es : List (Value × AV)} {ces : List MapEntry}, RepE E es ces → c.key = k → Rep E a c.val → RepE E (es ++ [(k, a)]) (ces ++ [c])
  | _, _, .nil, h1, h2 => .cons h1 h2 .nil
  | _, _, .cons g1 g2 g3, h1, h2 => .cons g1 g2 (g3.snoc h1 h2)

/-- The two ways in which a map's block is written. -/
theorem write_map {E : Env} (r : R E) {l b g g' : Nat} {es es' : List (Value × AV)} (h1 : E.O[l]? = some (.map g es)) (h2 : E.pl l = some b) {ces ces' : Array MapEntry} {clk clk' : Nat} (q1 : E.w.heap[b]? = some (.map ces clk))
    (hg : g' = g + 1 ∨ (g' = g ∧ clk' = clk ∧ ces'.toList.map (fun e => (e.key, e.born)) = ces.toList.map (fun e => (e.key, e.born))))
    (hrep : RepE E es' ces'.toList) (hp : ces'.toList.Pairwise fun a b => a.born < b.born) (hb : ∀ c ∈ ces'.toList, c.born < clk') (hn : (es'.map Prod.fst).Nodup) :
    R (E.write (setBlk E.w b (.map ces' clk')) l (.map g' es')) ∧ Ext E (E.write (setBlk E.w b (.map ces' clk')) l (.map g' es')) := by
  have ht := Turn.setBlk E b (.map ces' clk')
  have hs : SameSize E.w (setBlk E.w b (.map ces' clk')) b := fun cur e hc => by rw [q1] at hc; cases hc
  have hle : AO.le (.map g es) (.map g' es') := by
    simp only [AO.le]; rcases hg with h | ⟨h, _⟩ <;> omega
  have hk : KeysKept E (E.write (setBlk E.w b (.map ces' clk')) l (.map g' es')) := by
    intro m bm c0 k0 g0 e0 e1 p1 p2 p3 p4
    by_cases hm : m = l
    · subst hm
      rw [h2] at p1; injection p1 with p1; subst p1
      rw [h1] at p2; injection p2 with p2; injection p2 with a1 a2
      have p3' : (E.O.set m (.map g' es'))[m]? = some (.map g0 e1) := p3
      rw [get_set_self h1] at p3'; injection p3' with p3'; injection p3' with a3 a4
      rw [q1] at p4; injection p4 with p4; injection p4 with a5 a6
      subst a5; subst a6
      rcases hg with hg | ⟨_, hg1, hg2⟩
      · omega
      · subst hg1
        exact ⟨ces', setBlk_self q1, hg2⟩
    · exact ⟨c0, (ht.block bm (r.plOk m bm (lt_of_get p2) p1).2.1 (fun e => hm (r.plInj m l b (lt_of_get p2) (lt_of_get h1) (e ▸ p1) h2))).trans p4, rfl⟩
  have xx := Env.write_ext r h1 h2 ht hle hs hk
  exact ⟨Env.write_R r h1 h2 ht hle hs hk ⟨b, ces', clk', h2, setBlk_self q1, hrep.mono xx, hp, hb, hn⟩, xx⟩

section
variable {P : Program}

/-- An operation without a result. -/
def DoneU (E : Env) (rs : Rs) (res : Result Unit) : Prop := ∃ E', res = .ok () E'.w ∧ R E' ∧ Ext E E' ∧ rs.a = .any ∧ E'.O = rs.O ∧ E'.G = rs.G

theorem done_mupd {E : Env} (r : R E) {t kt e : TypeId} (hu : P.underlying t = some (.map kt e)) {ks : KS} (hf : flatT P 10 kt = some (ks.ag, ks.ls)) {m k x : AV} {u v y : Value} (hm : Rep E m u) (hk : Rep E k v) (hx : Rep E x y)
    (hok : (evMupd ks E.O E.G x m k).ok) : DoneU E (evMupd ks E.O E.G x m k) ((Instr.mapUpdate t u v y).run P E.w) := by
  unfold evMupd at hok ⊢
  split at hok
  · rename_i l
    cases hm with
    | lm b g es h1 h2 =>
      simp only [h1] at hok ⊢
      obtain ⟨ces, clk, q1, q2, q3, q4, q5⟩ := r.mapAt h1 h2
      split at hok
      · rename_i g' es' kv e1 e2
        injection e1 with e1; injection e1 with e3 e4; subst e3; subst e4
        obtain ⟨rfl, hkv⟩ := keyVal_mk hk e2
        split at hok
        · rename_i a e5
          have hck := run_checkKey_of (P := P) hf hkv hok false E.w
          obtain ⟨q, hq⟩ := Option.isSome_iff_exists.1 hok
          rcases findM_C q2 0 e5 with ⟨h5, _⟩ | ⟨a', j, c, h5, h6, h7, h8, h9, h10⟩
          · cases h5
          · have hfk := run_findKey hf hkv E.w h6
            have hkc : v = c.key := by have := (kEq_iff hkv h10).2.2; exact this.1 rfl
            have hidx := findC_idxE hkv h6
            obtain ⟨s1, s2, s3⟩ := setM_rep hkv hx q2 0 hidx
            have hsb := sameBits_key hkv hq
            have hcj : ces[j]? = some c := by rw [← Array.getElem?_toList]; exact h7
            have hmod : (ces.modify j fun e => { e with key := v, val := y }).toList = ces.toList.set j { c with val := y } := by
              rw [toList_modify h7]; congr 1; rw [hkc]
            obtain ⟨w1, w2⟩ := write_map (g' := g) (es' := setM ks.ls v x es) (ces' := ces.modify j fun e => { e with key := v, val := y }) (clk' := clk) r h1 h2 q1 (.inr ⟨rfl, rfl, by rw [hmod]; exact map_set_same h7 _ rfl⟩)
              (by rw [hmod]; exact s1) (by rw [hmod]; exact pairwise_set h7 rfl q3) (by rw [hmod]; exact born_set h7 rfl q4) (by rw [keys_setM s3]; exact q5)
            refine ⟨_, ?_, w1, w2, rfl, rfl, rfl⟩
            have hkk : (Instr.keyThatStays (((ces[0 + j]?).map (·.key)).getD v) v).run P E.w = .ok v E.w := by
              simp [Instr.keyThatStays, hcj, ← hkc, hsb]
            simp only [Nat.zero_add] at hkk hfk
            simp [Instr.mapUpdate, run_underlying hu, run_getObj_map q1, hck, hfk, hkk, run_setObj_map q1, Env.write]
        · rename_i e5
          have hck := run_checkKey_of (P := P) hf hkv hok false E.w
          rcases findM_C q2 0 e5 with ⟨_, h6⟩ | ⟨a', j, c, h5, _⟩
          · have hfk := run_findKey hf hkv E.w h6
            obtain ⟨w1, w2⟩ := write_map (g' := g + 1) (es' := es ++ [(v, x)]) (ces' := ces.push { key := v, val := y, born := clk }) (clk' := clk + 1) r h1 h2 q1 (.inl rfl)
              (by simpa using q2.snoc (c := { key := v, val := y, born := clk }) rfl hx) (by
                simp only [Array.toList_push]
                rw [List.pairwise_append]
                exact ⟨q3, by simp, fun a ha b hb => by simp at hb; subst hb; exact q4 a ha⟩)
              (by
                intro c hc
                simp only [Array.toList_push, List.mem_append, List.mem_singleton] at hc
                rcases hc with hc | rfl
                · exact Nat.lt_succ_of_lt (q4 c hc)
                · exact Nat.lt_succ_self _)
              (by
                rw [List.map_append, List.nodup_append]
                exact ⟨q5, by simp, fun a ha b hb => by simp at hb; subst hb; exact fun e => not_mem_keys hkv e5 (e ▸ ha)⟩)
            refine ⟨_, ?_, w1, w2, rfl, rfl, rfl⟩
            simp [Instr.mapUpdate, run_underlying hu, run_getObj_map q1, hck, hfk, run_setObj_map q1, Env.write]
          · cases h5
        · exact hok.elim
      · exact hok.elim
  · exact hok.elim

theorem set_same {α : Type} {L : List α} {l : Nat} {a : α} (h : L[l]? = some a) : L.set l a = L := by
  apply List.ext_getElem?
  intro i
  rw [List.getElem?_set]
  split
  · rename_i e; subst e; rw [if_pos (lt_of_get h), h]
  · rfl

theorem idxE_snoc {ls : List Leaf} {k : Value} {c : MapEntry} (hc : leavesEq ls (cellsL k) (cellsL c.key) = some true) : ∀ {l : List MapEntry} {i : Nat}, idxE ls k l i = none → idxE ls k (l ++ [c]) i = some (i + l.length, c)
  | [], i, _ => by simp [idxE, hc]
  | e :: l, i, h => by
    simp only [idxE] at h
    split at h
    · cases h
    · rename_i hne
      simp only [List.cons_append, idxE, if_neg hne, idxE_snoc hc h, List.length_cons]
      congr 2; omega

theorem done_ment {E : Env} (r : R E) {t kt e : TypeId} (hu : P.underlying t = some (.map kt e)) {ks : KS} (hf : flatT P 10 kt = some (ks.ag, ks.ls)) {z : AV} (hz : zeroOf P e = some z) {m k : AV} {u v : Value} (hm : Rep E m u) (hk : Rep E k v)
    (hok : (evMent ks z E.O E.G m k).ok) : Done E (evMent ks z E.O E.G m k) ((Instr.mapEntry t u v).run P E.w) := by
  unfold evMent at hok ⊢
  split at hok
  · rename_i l
    cases hm with
    | lm b g es h1 h2 =>
      simp only [h1] at hok ⊢
      obtain ⟨ces, clk, q1, q2, q3, q4, q5⟩ := r.mapAt h1 h2
      obtain ⟨iz, zv, z1, z2, z3⟩ := zeroOf_some hz
      split at hok
      · rename_i g' es' kv e1 e2
        injection e1 with e1; injection e1 with e3 e4; subst e3; subst e4
        obtain ⟨rfl, hkv⟩ := keyVal_mk hk e2
        split at hok
        · rename_i a e5
          have hck := run_checkKey_of (P := P) hf hkv hok false E.w
          obtain ⟨q, hq⟩ := Option.isSome_iff_exists.1 hok
          rcases findM_C q2 0 e5 with ⟨h5, _⟩ | ⟨a', j, c, h5, h6, h7, h8, h9, h10⟩
          · cases h5
          · injection h5 with h5; subst h5
            have hfk := run_findKey hf hkv E.w h6
            have hkc : v = c.key := by have := (kEq_iff hkv h10).2.2; exact this.1 rfl
            have hidx := findC_idxE hkv h6
            have hsb := sameBits_key hkv hq
            have hcj : ces[j]? = some c := by rw [← Array.getElem?_toList]; exact h7
            have hmod : ces.modify j (fun e => { e with key := v }) = ces := by
              apply Array.ext'
              rw [toList_modify h7]
              apply set_same
              rw [h7, hkc]
            obtain ⟨w1, w2⟩ := write_map (g' := g) (es' := es) (ces' := ces) (clk' := clk) r h1 h2 q1 (.inr ⟨rfl, rfl, rfl⟩) q2 q3 q4 q5
            have hO : (E.write (setBlk E.w b (.map ces clk)) l (.map g es)).O = E.O := set_same h1
            refine ⟨.tuple #[c.val, goInt c.born], _, ?_, w1, w2, ?_, hO, rfl⟩
            · have hkk : (Instr.keyThatStays c.key v).run P E.w = .ok v E.w := by
                rw [← hkc]; simp [Instr.keyThatStays, hsb]
              simp only [Nat.zero_add] at hfk
              simp [Instr.mapEntry, run_underlying hu, run_getObj_map q1, hck, hfk, hkk, run_setObj_map q1, Env.write, hmod, hcj]
            · refine .tup (.cons (h8.mono w2) (.cons (.stm ⟨g, es, b, ?_, Nat.le_refl _, h2, fun _ => ⟨ces, clk, 0 + j, c, setBlk_self q1, hidx, rfl⟩⟩ rfl) .nil))
              rw [hO]; exact h1
        · rename_i e5
          have hck := run_checkKey_of (P := P) hf hkv hok false E.w
          obtain ⟨q, hq⟩ := Option.isSome_iff_exists.1 hok
          rcases findM_C q2 0 e5 with ⟨_, h6⟩ | ⟨a', j, c, h5, _⟩
          · have hfk := run_findKey hf hkv E.w h6
            have hidx := findC_idxE hkv h6
            have hlv : leavesEq ks.ls (cellsL v) (cellsL v) = some true := by
              have := kEq_iff hkv hq
              rw [this.1]; congr 1; exact this.2.2.2 rfl
            obtain ⟨w1, w2⟩ := write_map (g' := g + 1) (es' := es ++ [(v, z)]) (ces' := ces.push { key := v, val := zv, born := clk }) (clk' := clk + 1) r h1 h2 q1 (.inl rfl)
              (by simpa using q2.snoc (c := { key := v, val := zv, born := clk }) rfl (ofC_rep z3 E)) (by
                simp only [Array.toList_push]
                rw [List.pairwise_append]
                exact ⟨q3, by simp, fun a ha b hb => by simp at hb; subst hb; exact q4 a ha⟩)
              (by
                intro c hc
                simp only [Array.toList_push, List.mem_append, List.mem_singleton] at hc
                rcases hc with hc | rfl
                · exact Nat.lt_succ_of_lt (q4 c hc)
                · exact Nat.lt_succ_self _)
              (by
                rw [List.map_append, List.nodup_append]
                exact ⟨q5, by simp, fun a ha b hb => by simp at hb; subst hb; exact fun e => not_mem_keys hkv e5 (e ▸ ha)⟩)
            refine ⟨.tuple #[zv, goInt clk], _, ?_, w1, w2, ?_, rfl, rfl⟩
            · simp [Instr.mapEntry, run_underlying hu, run_getObj_map q1, hck, hfk, run_setObj_map q1, Env.write, run_zeroValue_of z1 z2]
            · refine .tup (.cons (ofC_rep z3 _) (.cons (.stm ⟨g + 1, es ++ [(v, z)], b, get_set_self h1, Nat.le_refl _, h2, fun _ => ⟨_, clk + 1, 0 + ces.toList.length, { key := v, val := zv, born := clk }, setBlk_self q1, ?_, rfl⟩⟩ rfl) .nil))
              simpa using idxE_snoc (c := { key := v, val := zv, born := clk }) hlv hidx
          · cases h5
        · exact hok.elim
      · exact hok.elim
  · exact hok.elim

theorem findIdx_born {ces : Array MapEntry} {j : Nat} {c : MapEntry} (h : ces.toList[j]? = some c) (hp : ces.toList.Pairwise fun a b => a.born < b.born) : ces.findIdx? (fun e => (e.born : Int) == (c.born : Int)) = some j := by
  have hj := lt_of_get h
  simp at hj
  have hc : ces[j] = c := by
    rw [List.getElem?_eq_getElem (lt_of_get h)] at h
    simpa using h
  rw [Array.findIdx?_eq_some_iff_getElem]
  refine ⟨hj, by simp [hc], fun i hi => ?_⟩
  have := (List.pairwise_iff_getElem.1 hp) i j (by simp; omega) (by simpa using hj) hi
  simp only [Array.getElem_toList, hc] at this
  simp; omega

theorem idxE_get {ls : List Leaf} {k : Value} : ∀ {l : List MapEntry} {i p : Nat} {c : MapEntry}, idxE ls k l i = some (p, c) → ∃ j, p = i + j ∧ l[j]? = some c
  | [], _, _, _, h => by simp [idxE] at h
  | e :: l, i, p, c, h => by
    simp only [idxE] at h
    split at h
    · injection h with h; injection h with e1 e2; subst e1; subst e2; exact ⟨0, rfl, rfl⟩
    · obtain ⟨j, h1, h2⟩ := idxE_get h
      exact ⟨j + 1, by omega, by simpa using h2⟩

theorem setM_rep' {E : Env} {ls : List Leaf} {k : Value} {x : AV} {xv : Value} (hx : Rep E x xv) : ∀ {es : List (Value × AV)} {ces : List MapEntry} (h : RepE E es ces) (i : Nat) {j : Nat} {c : MapEntry}, idxE ls k ces i = some (i + j, c) →
    RepE E (setM ls k x es) (ces.set j { c with val := xv }) ∧ ces[j]? = some c ∧ ∃ p ∈ es, leavesEq ls (cellsL k) (cellsL p.1) = some true
  | [], [], _, i, j, c, h => by simp [idxE] at h
  | (k', a) :: es, c0 :: ces, .cons h1 h2 h3, i, j, c, h => by
    subst h1
    simp only [idxE] at h
    simp only [setM]
    split at h
    · rename_i hq
      injection h with h; injection h with e1 e2
      obtain rfl : j = 0 := by omega
      subst e2
      rw [if_pos hq]
      exact ⟨.cons rfl hx h3, rfl, (c0.key, a), by simp, hq⟩
    · rename_i hq
      obtain ⟨p, hp1, hp2⟩ := idxE_get h
      obtain rfl : j = p + 1 := by omega
      rw [if_neg hq]
      obtain ⟨k1, k2, p', k3, k4⟩ := setM_rep' hx h3 (i + 1) (j := p) (c := c) (by rw [h]; congr 2)
      exact ⟨.cons rfl h2 k1, by simpa using k2, p', by simp [k3], k4⟩

theorem done_mest {E : Env} (r : R E) {t : TypeId} {m s x : AV} {u v y : Value} (hm : Rep E m u) (hs : Rep E s v) (hx : Rep E x y)
    (hok : (evMest E.O E.G x m s).ok) : DoneU E (evMest E.O E.G x m s) ((Instr.entryStore t u v y).run P E.w) := by
  unfold evMest at hok ⊢
  split at hok
  · rename_i l l' g k ls
    cases hm with
    | lm b g0 es h1 h2 =>
      simp only [h1] at hok ⊢
      obtain ⟨rfl, rfl⟩ := hok
      obtain ⟨ces, clk, q1, q2, q3, q4, q5⟩ := r.mapAt h1 h2
      cases hs with
      | stm hst _ =>
        obtain ⟨h, es0, b0, s1, s2, s3, s4⟩ := hst
        rw [h1] at s1; injection s1 with s1; injection s1 with e1 e2; subst e1; subst e2
        rw [h2] at s3; injection s3 with s3; subst s3
        obtain ⟨ces0, clk0, i, c, t1, t2, rfl⟩ := s4 rfl
        rw [q1] at t1; injection t1 with t1; injection t1 with e3 e4; subst e3; subst e4
        obtain ⟨j, rfl, t3⟩ := idxE_get t2
        obtain ⟨k1, k2, k3⟩ := setM_rep' hx q2 0 t2
        have hfi := findIdx_born t3 q3
        have hmod : (ces.modify j fun e => { e with val := y }).toList = ces.toList.set j { c with val := y } := toList_modify t3 _
        obtain ⟨w1, w2⟩ := write_map (g' := g0) (es' := setM ls k x es) (ces' := ces.modify j fun e => { e with val := y }) (clk' := clk) r h1 h2 q1 (.inr ⟨rfl, rfl, by rw [hmod]; exact map_set_same t3 _ rfl⟩)
          (by rw [hmod]; exact k1) (by rw [hmod]; exact pairwise_set t3 rfl q3) (by rw [hmod]; exact born_set t3 rfl q4) (by rw [keys_setM k3]; exact q5)
        refine ⟨_, ?_, w1, w2, rfl, rfl, rfl⟩
        simp [Instr.entryStore, run_getObj_map q1, asInt, asIntOf, hfi, run_setObj_map q1, Env.write]
  · exact hok.elim

theorem delM_rep {E : Env} {ls : List Leaf} {k : Value} : ∀ {es : List (Value × AV)} {ces : List MapEntry} (h : RepE E es ces) (i : Nat) {j : Nat} {c : MapEntry}, idxE ls k ces i = some (i + j, c) →
    RepE E (delM ls k es) (ces.eraseIdx j) ∧ (delM ls k es).Sublist es
  | [], [], _, i, j, c, h => by simp [idxE] at h
  | (k', a) :: es, c0 :: ces, .cons h1 h2 h3, i, j, c, h => by
    subst h1
    simp only [idxE] at h
    simp only [delM]
    split at h
    · rename_i hq
      injection h with h; injection h with e1 e2
      obtain rfl : j = 0 := by omega
      rw [if_pos hq]
      exact ⟨h3, List.sublist_cons_self _ _⟩
    · rename_i hq
      obtain ⟨p, hp1, hp2⟩ := idxE_get h
      obtain rfl : j = p + 1 := by omega
      rw [if_neg hq]
      obtain ⟨k1, k2⟩ := delM_rep h3 (i + 1) (j := p) (c := c) (by rw [h]; congr 2)
      exact ⟨.cons rfl h2 k1, k2.cons_cons _⟩
theorem delM_none {E : Env} {ls : List Leaf} {k : Value} : ∀ {es : List (Value × AV)} {ces : List MapEntry} (h : RepE E es ces) (i : Nat), idxE ls k ces i = none → delM ls k es = es
  | [], [], _, i, h => rfl
  | (k', a) :: es, c0 :: ces, .cons h1 h2 h3, i, h => by
    subst h1
    simp only [idxE] at h
    split at h
    · cases h
    · rename_i hq
      simp [delM, hq, delM_none h3 (i + 1) h]

theorem done_del {E : Env} (r : R E) {t kt e : TypeId} (hu : P.underlying t = some (.map kt e)) {ks : KS} (hf : flatT P 10 kt = some (ks.ag, ks.ls)) {ty : TypeId} {ats : Array TypeId} (hat : ats[0]? = some t) {m k : AV} {u v : Value} (hm : Rep E m u) (hk : Rep E k v)
    (hok : (evDel ks E.O E.G m k).ok) : Done E (evDel ks E.O E.G m k) ((Builtin.delete_ ats ty #[u, v]).run P E.w) := by
  unfold evDel at hok ⊢
  split at hok
  · rename_i l
    cases hm with
    | lm b g es h1 h2 =>
      simp only [h1] at hok ⊢
      obtain ⟨ces, clk, q1, q2, q3, q4, q5⟩ := r.mapAt h1 h2
      split at hok
      · rename_i g' es' kv e1 e2
        injection e1 with e1; injection e1 with e3 e4; subst e3; subst e4
        obtain ⟨rfl, hkv⟩ := keyVal_mk hk e2
        split at hok
        · rename_i a e5
          have hck := run_checkKey_of (P := P) hf hkv hok ces.isEmpty E.w
          rcases findM_C q2 0 e5 with ⟨_, h6⟩ | ⟨a', j, c, h5, h6, h7, h8, h9, h10⟩
          · have hfk := run_findKey hf hkv E.w h6
            have hd := delM_none q2 0 (findC_idxE hkv h6)
            obtain ⟨w1, w2⟩ := write_map (g' := g + 1) (es' := es) (ces' := ces) (clk' := clk) r h1 h2 q1 (.inl rfl) q2 q3 q4 q5
            refine ⟨.tuple #[], _, ?_, w1, w2, .tup .nil, by rw [hd]; rfl, rfl⟩
            simp [Builtin.delete_, hat, run_underlying hu, run_getObj_map q1, hck, hfk, run_setObj_map q1, Env.write]
          · have hfk := run_findKey hf hkv E.w h6
            obtain ⟨k1, k2⟩ := delM_rep q2 0 (findC_idxE hkv h6)
            have hj := lt_of_get h7
            simp at hj
            have her : (ces.eraseIdxIfInBounds j).toList = ces.toList.eraseIdx j := by simp [Array.eraseIdxIfInBounds, hj]
            obtain ⟨w1, w2⟩ := write_map (g' := g + 1) (es' := delM ks.ls v es) (ces' := ces.eraseIdxIfInBounds j) (clk' := clk) r h1 h2 q1 (.inl rfl) (by rw [her]; exact k1)
              (by rw [her]; exact q3.sublist (List.eraseIdx_sublist _ _)) (by rw [her]; exact fun c hc => q4 c (List.mem_of_mem_eraseIdx hc)) (q5.sublist (k2.map _))
            refine ⟨.tuple #[], _, ?_, w1, w2, .tup .nil, rfl, rfl⟩
            simp only [Nat.zero_add] at hfk
            simp [Builtin.delete_, hat, run_underlying hu, run_getObj_map q1, hck, hfk, run_setObj_map q1, Env.write]
        · exact hok.elim
      · exact hok.elim
  · exact hok.elim
end
end Go.VL
