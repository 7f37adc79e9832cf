/- Value logic, part 28: from a call over abstract values to a law over every input: what came in is opened, what was there stays. -/
import Derived.Test.YtohccdodnpkpfaaVl27
import Derived.Deep.Slices
import Derived.Carry
import Derived.Handed
import Derived.ProofKit
set_option linter.unusedVariables false
set_option linter.unusedSimpArgs false
namespace Go.VL
open Go.RowKit Go.ChangeShapes Go.WideShapes Go.Deep

/-- The world as it came: nobody writes into what is there. -/
def Env.start (W : World) : Env := { F := fun b _ => b < W.heap.size, base := W.heap.size, w0 := W, w := W, O := [], G := [], pl := fun _ => none, tk := fun _ => 0 }
theorem Env.start_R (W : World) : R (Env.start W) := by
  refine ⟨Below.refl _ _, Nat.le_refl _, fun b hi h => h, ?_, ?_, ?_, ?_, ?_, ?_⟩
  · intro l b hl; simp [Env.start] at hl
  · intro l l' b hl; simp [Env.start] at hl
  · intro t m hm; simp [Env.start] at hm
  · intro t t' hl; simp [Env.start] at hl
  · intro l b t hl; simp [Env.start] at hl
  · intro l o ho; simp [Env.start] at ho

/-- A call over abstract values is a call. -/
theorem PCall.calls {P : Program} {f : Nat} (hf : HasBody P f) {args : List AV} {K : AV → List AO → List Nat → Prop} (h : PCall P f args [] [] K) {W : World} {vs : List Value} (hv : RepL (Env.start W) args vs) :
    Calls P f vs.toArray W fun e w' => ∃ v r O G E', e = .returned v ∧ Below W.heap.size W w' ∧ Rep E' r v ∧ K r O G := by
  have h1 := h (Env.start W) vs (Env.start_R W) rfl rfl hv
  obtain ⟨fn, q1, q2, q3⟩ := hf
  have he : (callFunc f vs.toArray).run P W = .ok (.enter f vs.toArray) W := by
    have h2 : fn.body ≠ none := by intro e; simp [e] at q2
    have h3 : fn.name ≠ "runtime.NumGoroutine" := by simpa using q3
    simp [callFunc, q1, h3, h2]
  unfold FnCall at h1
  rw [show (Env.start W).w = W from rfl, he] at h1
  refine Calls.mono h1 fun e w' hK => ?_
  cases e with
  | returned v =>
    obtain ⟨E', r, rfl, k2, k3, k4, k5⟩ := hK
    have hb := k2.below
    rw [k3.base_eq, k3.w0_eq] at hb
    exact ⟨v, r, _, _, E', rfl, hb, k4, k5⟩
  | _ => exact hK.elim

/-- A law's call returns true. -/
theorem PCall.law {P : Program} {f : Nat} (hf : HasBody P f) {args : List AV} (h : PCall P f args [] [] fun r _ _ => r = .v (.bool true)) {W : World} {vs : List Value} (hv : RepL (Env.start W) args vs) :
    Calls P f vs.toArray W fun e w' => e = .returned (.bool true) ∧ Below W.heap.size W w' := by
  refine (h.calls hf hv).mono ?_
  rintro e w' ⟨v, r, O, G, E', rfl, hb, hr, rfl⟩
  rw [rep_v hr]
  exact ⟨rfl, hb⟩

section
variable {H : Type} {enc : TypeId × Value → H} {P : Program}

/-- Each argument reads as it did. -/
theorem trodAll_stays (hl : laidOutB P = true) {W W' : World} (hb : Below W.heap.size W W') {sp : Nat → Bool} : ∀ {ts : List TypeId} {vs : List Value} {ds : List (DataW H)} {ps : List MemPlace}, (∀ t ∈ ts, P.readableRec t = true ∧ t < P.types.size) →
    DataW.TrodAll enc P W 0 (fun _ => true) true ts vs ds ps → (∀ x ∈ ps, x.block < W.heap.size) → (∀ x ∈ ps, sp x.block = true) → DataW.TrodAll enc P W' 0 sp true ts vs ds ps
  | [], [], [], ps, _, h, _, _ => h
  | t :: ts, v :: vs, d :: ds, ps, ht, ⟨p, q, h1, h2, e⟩, hlt, hsp => by
    subst e
    obtain ⟨k1, k2⟩ := ht t (by simp)
    exact ⟨p, q, WideElems.Trod_stays hl k1 k2 h1 (fun x hx => hb.same (hlt x (by simp [hx]))) (fun x hx => hsp x (by simp [hx])),
      trodAll_stays hl hb (fun t ht' => ht t (by simp [ht'])) h2 (fun x hx => hlt x (by simp [hx])) (fun x hx => hsp x (by simp [hx])), rfl⟩
  | [], [], _ :: _, _, _, h, _, _ | [], _ :: _, _, _, _, h, _, _ | _ :: _, [], _, _, _, h, _, _ | _ :: _, _ :: _, [], _, _, h, _, _ => by simp [DataW.TrodAll] at h

/-- The end of a law: it returned true, below all is as it was. -/
theorem law_post {f : Func} {s : ChangeSpec} {apart fresh handsOn again : Bool} {W W' : World} {args : Array Value} {ds gs : List (DataW H)} {before : List MemPlace} {tb : TypeId} (hl : laidOutB P = true) (hts : ∀ t ∈ f.params.toList, P.readableRec t = true ∧ t < P.types.size)
    (htb : P.underlying tb = some .bool) (hrt : f.resultTypes = #[tb]) (hv0 : s.vars = []) (hres : (s.fn H (ds ++ [])).results = [.lit (.bool true)]) (hargs : (s.fn H (ds ++ [])).args = ds) (hvars : (s.fn H (ds ++ [])).vars = [])
    (hW : DataW.Whole enc P f.params.toList s.vars apart W args.toList ds gs before) (hb : Below W.heap.size W W') : s.post enc P f apart fresh handsOn again W args (.bool true) W' := by
  have hlt : ∀ p ∈ before, p.block < W.heap.size := fun p hp => hW.lt p hp
  have hold : ∀ p ∈ before, (fun b => decide (b < W.heap.size)) p.block = true := fun p hp => by simpa using hlt p hp
  have hW0 := hW
  obtain ⟨p, q, hA, hV, rfl, hz, hn⟩ := hW
  rw [hv0] at hV
  have hq : gs = [] ∧ q = [] := by
    cases gs with
    | nil => exact ⟨rfl, hV⟩
    | cons g gs => exact hV.elim
  obtain ⟨rfl, rfl⟩ := hq
  rw [List.append_nil] at hlt hold hz hn hW0
  have hres' : ∀ (b : Nat) (sp : Nat → Bool) (hd : Bool), DataW.TrodAll enc P W' b sp hd f.resultTypes.toList ((Value.bool true).resultList f.resultTypes.size) (s.fn H (ds ++ [])).results [] := by
    intro b sp hd
    rw [hrt, hres]
    exact ⟨[], [], ⟨1, by simp [DataW.trod, htb, Value.cells]⟩, rfl, rfl⟩
  have hargs' : ∀ sp : Nat → Bool, (∀ x ∈ p, sp x.block = true) → DataW.TrodAll enc P W' 0 sp true f.params.toList args.toList (s.fn H (ds ++ [])).args p := by
    intro sp hsp
    rw [hargs]
    exact trodAll_stays hl hb hts hA hlt hsp
  have hvars' : ∀ sp : Nat → Bool, DataW.TrodVars enc P W' sp s.vars (s.fn H (ds ++ [])).vars [] := by
    intro sp
    rw [hv0, hvars]; rfl
  refine ⟨ds, [], p, [], p, [], hW0, hres' _ _ _, hargs' _ hold, hvars' _, World.keptBut_mono (fun x hx => ⟨hx, Or.inr (by simpa using hx)⟩) (hb.frame (· ∈ p)), fun _ => ?_⟩
  refine ⟨?_, _, _, ([] ++ p) ++ [], ⟨[] ++ p, [], trodAll_append (hargs' _ (fun _ _ => rfl)) (hres' _ _ _), hvars' _, rfl, ?_, ?_⟩, ?_⟩
  · intro j t' r hj hr
    rw [hrt] at hj hr
    match j, hj, hr with
    | 0, hj, hr =>
      simp [Value.resultList] at hj hr
      subst hj; subst hr
      exact okWide_bool_mk htb true
  · intro b off hp
    have hin : MemPlace.cell b off ∈ p := by simpa using hp
    rw [hb.frozen (hlt _ hin)]
    exact hz b off hin
  · intro ha
    simpa using hn ha
  · intro x hx _
    simpa using hx
end

/-! ### What came in -/
theorem exists_map {α β : Type} {f : α → β} {Q : α → Prop} : ∀ {l : List β}, (∀ x ∈ l, ∃ a, x = f a ∧ Q a) → ∃ as : List α, l = as.map f ∧ ∀ a ∈ as, Q a
  | [], _ => ⟨[], rfl, by simp⟩
  | x :: l, h => by
    obtain ⟨a, e, q⟩ := h x (by simp)
    obtain ⟨as, e', q'⟩ := exists_map fun y hy => h y (List.mem_cons_of_mem _ hy)
    exact ⟨a :: as, by rw [e, e']; rfl, by simp [q]; exact q'⟩

theorem rowAt_append {w : World} {b o : Nat} {xs ys : List Value} (h1 : RowAt w b o xs) (h2 : RowAt w b (o + xs.length) ys) : RowAt w b o (xs ++ ys) := by
  intro j c hj
  rcases Nat.lt_or_ge j xs.length with h | h
  · rw [List.getElem?_append_left h] at hj; exact h1 j c hj
  · rw [List.getElem?_append_right h] at hj
    have := h2 (j - xs.length) c hj
    rw [show o + xs.length + (j - xs.length) = o + j by omega] at this
    exact this

section
variable {H : Type} {enc : TypeId × Value → H} {P : Program}
/-- A slice of structs of one-cell fields: each element's cells, as they read. -/
theorem open_rows {t e : TypeId} {fs : Array Field} {W : World} {v : Value} {d : DataW H} {p : List MemPlace} (ht : P.underlying t = some (.slice e)) (he : P.underlying e = some (.struct fs)) (hone : ∀ (j : Nat) (f : Field), fs[j]? = some f → f.offset = j ∧ P.cellsOf f.type = 1)
    (hC : P.cellsOf e = fs.size) (h0 : 0 < fs.size) (hv : ∃ a len cap, v = .slice a len cap) (h : DataW.Trod enc P W 0 (fun _ => true) true t v d p) :
    (∃ a cap, v = .slice a 0 cap) ∨ ∃ b o cap, ∃ rows : List (List Value), v = .slice (some ⟨b, o, none⟩) rows.length cap ∧ rows.length ≤ cap ∧ b < W.heap.size ∧ rows ≠ [] ∧ RowAt W b o (rows.flatMap id) ∧
      ∀ row ∈ rows, row.length = fs.size ∧ ∀ (j : Nat) (f : Field), fs[j]? = some f → ∃ x n y, row[j]? = some x ∧ DataW.trod enc P W 0 (fun _ => true) true n f.type [x] = some y := by
  obtain ⟨a0, len0, cap0, rfl⟩ := hv
  obtain ⟨fuel, h⟩ := h
  have hcs : (Value.slice a0 len0 cap0).cells.toList = [.slice a0 len0 cap0] := rfl
  rw [hcs] at h
  rcases open_slice ht h with ⟨hc, _⟩ | ⟨a, len, cap, m, n, D, Pl, hc, hb, hl, hm, hmm, hx, hi⟩
  · injection hc with hc; injection hc with e1 e2 e3
    subst e2
    exact .inl ⟨_, _, rfl⟩
  · injection hc with hc; injection hc with e1 e2 e3
    subst e1; subst e2; subst e3
    cases len0 with
    | zero => exact .inl ⟨_, _, rfl⟩
    | succ len =>
      right
      have hlm : len + 1 ≤ m := by rw [hmm]; simp; exact hl
      -- the first cell tells that the address is plain
      obtain ⟨cs0, hc0, _⟩ := hi 0 (by omega)
      obtain ⟨_, hcl0, hat0⟩ := World.cells?_some hc0
      have hz := hat0 0 (by rw [hC]; exact h0)
      have hspot : a.spot = none ∧ a.block < W.heap.size := by
        have e0 : (a.add (0 * P.cellsOf e)).add 0 = a := by simp [Addr.add]
        rw [e0] at hz
        have hlt0 : 0 < cs0.length := by rw [hcl0, hC]; exact h0
        rw [List.getElem?_eq_getElem hlt0] at hz
        unfold World.cell? at hz
        split at hz
        · rename_i cc e fr hbk
          split at hz
          · cases hz
          · rename_i hs
            exact ⟨by simpa using hs, (Array.getElem?_eq_some_iff.1 hbk).1⟩
        · cases hz
      obtain ⟨b, o, sp⟩ := a
      obtain ⟨hs, hbl⟩ := hspot
      dsimp only at hs
      subst hs
      -- the rows
      have rowOf : ∀ i, i < m → ∃ row : List Value, row.length = fs.size ∧ RowAt W b (o + i * fs.size) row ∧ ∀ (j : Nat) (f : Field), fs[j]? = some f → ∃ x n y, row[j]? = some x ∧ DataW.trod enc P W 0 (fun _ => true) true n f.type [x] = some y := by
        intro i him
        obtain ⟨cs', hc', ht'⟩ := hi i him
        rw [hC] at hc'
        obtain ⟨ys, n', hn', hy, hlen, hyl, hf⟩ := DataW.trod_struct he ht'
        obtain ⟨_, hcl, hat⟩ := World.cells?_some hc'
        refine ⟨cs', hcl, ?_, ?_⟩
        · intro j c hj
          have hjl : j < fs.size := by have := (List.getElem?_eq_some_iff.1 hj).1; omega
          have := hat j hjl
          rw [hj] at this
          rw [← this]
          congr 1
          by_cases e1 : i * fs.size = 0
          · by_cases e2 : j = 0
            · subst e2; simp [Addr.add, e1]
            · simp [Addr.add, e1, e2]
          · by_cases e2 : j = 0
            · subst e2; simp [Addr.add, e1]
            · simp [Addr.add, e1, e2]
        · intro j f hj
          obtain ⟨ho, hk⟩ := hone j f hj
          have hjl : j < fs.size := (Array.getElem?_eq_some_iff.1 hj).1
          have h1 := hf j f hj
          rw [ho, hk] at h1
          have hone' : (cs'.drop j).take 1 = [cs'[j]'(by omega)] := by
            rw [List.drop_eq_getElem_cons (by omega)]
            rfl
          rw [hone'] at h1
          have hys : ys[j]? = some (ys[j]'(by omega)) := List.getElem?_eq_getElem (by omega)
          exact ⟨cs'[j]'(by omega), n', _, List.getElem?_eq_getElem (by omega), h1.trans hys⟩
      have build : ∀ (k i : Nat), i + k ≤ m → ∃ rows : List (List Value), rows.length = k ∧ RowAt W b (o + i * fs.size) (rows.flatMap id) ∧ ∀ row ∈ rows, row.length = fs.size ∧ ∀ (j : Nat) (f : Field), fs[j]? = some f → ∃ x n y, row[j]? = some x ∧ DataW.trod enc P W 0 (fun _ => true) true n f.type [x] = some y := by
        intro k
        induction k with
        | zero => intro i _; exact ⟨[], rfl, fun j c hj => by simp at hj, by simp⟩
        | succ k ih =>
          intro i hik
          obtain ⟨row, r1, r2, r3⟩ := rowOf i (by omega)
          obtain ⟨rows, q1, q2, q3⟩ := ih (i + 1) (by omega)
          refine ⟨row :: rows, by simp [q1], ?_, ?_⟩
          · rw [List.flatMap_cons]
            refine rowAt_append r2 ?_
            rw [show o + i * fs.size + (id row).length = o + (i + 1) * fs.size by simp [r1, Nat.add_mul]; omega]
            exact q2
          · intro row' hr
            rcases List.mem_cons.1 hr with rfl | hr
            · exact ⟨r1, r3⟩
            · exact q3 row' hr
      obtain ⟨rows, q1, q2, q3⟩ := build (len + 1) 0 (by omega)
      rw [Nat.zero_mul, Nat.add_zero] at q2
      exact ⟨b, o, cap0, rows, by rw [q1], by rw [q1]; exact hl, hbl, by intro e; subst e; simp at q1, q2, q3⟩

/-- A slice of structs that came in, as an abstract value. -/
theorem rep_rows {α : Type} {W : World} {vals : α → List Value} {av : α → List AV} (hav : ∀ (E : Env) a, RepL E (av a) (vals a)) (hone : ∀ a, ∀ u ∈ vals a, u.oneCell' = true) {sz : Nat} (hsz : ∀ a, (vals a).length = sz) (h0 : 0 < sz) {b o cap : Nat} {as : List α} (hne : as ≠ [])
    (hcap : as.length ≤ cap) (hb : b < W.heap.size) (hrow : RowAt W b o ((as.map vals).flatMap id)) : Rep (Env.start W) (.sl (as.map fun a => .agg (av a)) .shut) (.slice (some ⟨b, o, none⟩) as.length cap) := by
  have hl : (as.map fun a => AV.agg (av a)).length = as.length := by simp
  have := Rep.sl (E := Env.start W) (xs := as.map fun a => .agg (av a)) (t := .shut) (vs := as.map fun a => .agg (vals a).toArray) b o cap sz (by simpa using hne) ?_ ?_ h0 ?_ ⟨_, Nat.le_refl _, hb⟩ (by simpa using hcap) trivial
  · rw [hl] at this; exact this
  · clear hne hcap hrow hl
    induction as with
    | nil => exact .nil
    | cons a as ih => exact .cons (.agg (hav _ a) (hone a)) ih
  · intro u hu
    obtain ⟨a, _, rfl⟩ := List.mem_map.1 hu
    simp [Value.cells, hsz]
  · have : flat (as.map fun a => Value.agg (vals a).toArray) = (as.map vals).flatMap id := by
      simp [flat, List.flatMap_map, Value.cells]
    rw [this]; exact hrow
end
end Go.VL
