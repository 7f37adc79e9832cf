/- Fragment: the program's joiner in memory. -/
import Derived.Test.YtohccdodnpkpfaaFr2
import Derived.Test.YtohccdodnpkpfaaVl27
set_option linter.unusedVariables false
set_option linter.unusedSimpArgs false
namespace Go.VL.Try
open Go.RowKit

/-! ### Maps whose keys are pairs of numbers -/
abbrev Key := Int × Int
def kv (x : Key) : Value := .agg #[.int .i64 x.1, .int .i64 x.2]
abbrev ks2 : KS := ⟨true, [.int .i64, .int .i64]⟩
def pm (L : List (Key × AV)) : List (Value × AV) := L.map fun p => (kv p.1, p.2)
theorem kEq_kv (x y : Key) : kEq ks2 (kv x) (kv y) = some (x == y) := by
  simp [kEq, kv, shapeB, leavesEq, leafEq, cellsL]
  rfl
theorem leaves_kv (x y : Key) : leavesEq [.int .i64, .int .i64] (cellsL (kv x)) (cellsL (kv y)) = some (x == y) := by
  simp [kv, leavesEq, leafEq, cellsL]
  rfl
def fndK (x : Key) (L : List (Key × AV)) : Option AV := (L.find? fun p => p.1 == x).map (·.2)
theorem findM_pm (x : Key) : ∀ L : List (Key × AV), findM ks2 (kv x) (pm L) = some (fndK x L)
  | [] => rfl
  | (y, a) :: L => by
    have ih := findM_pm x L
    simp only [pm, List.map_cons, findM, kEq_kv] at ih ⊢
    simp only [fndK, List.find?_cons] at ih ⊢
    by_cases e : y = x
    · subst e; simp
    · have e1 : (x == y) = false := by simp [Ne.symm e]
      have e2 : (y == x) = false := by simp [e]
      simp only [e1, e2]; exact ih
def delK (x : Key) : List (Key × AV) → List (Key × AV)
  | [] => []
  | (y, a) :: L => if y = x then L else (y, a) :: delK x L
theorem delM_pm (x : Key) : ∀ L : List (Key × AV), delM [.int .i64, .int .i64] (kv x) (pm L) = pm (delK x L)
  | [] => rfl
  | (y, a) :: L => by
    have ih := delM_pm x L
    simp only [pm, List.map_cons, delM, leaves_kv] at ih ⊢
    by_cases e : y = x
    · subst e; simp [delK]
    · have e1 : (x == y) = false := by simp [Ne.symm e]
      simp only [e1, delK, if_neg e]
      simp only [Option.some.injEq, Bool.false_eq_true, if_false, ih, List.map_cons]
theorem pm_len (L : List (Key × AV)) : (pm L).length = L.length := by simp [pm]
theorem pm_snoc (L : List (Key × AV)) (x : Key) (a : AV) : pm L ++ [(kv x, a)] = pm (L ++ [(x, a)]) := by simp [pm]

/-! ### The state in memory -/
def Opn.key (o : Opn) : Key := (o.fr, o.num)
def bytesAt (l : List Frag) (i : Nat) : ByteArray := match l.find? (fun x => x.part == (i : Int)) with | some x => x.bytes | none => ⟨#[]⟩
def slots (o : Opn) : List ByteArray := (List.range o.parts.toNat).map (bytesAt o.l)
structure PAt (O : List AO) (lj : Nat) (s : St) (own : Nat → Nat) (lo ld : Nat) (Fs Ps : List Nat) : Prop where
  root : O[lj]? = some (.cells [.lm lo, .lm ld])
  opn : ∃ g, O[lo]? = some (.map g (pm (List.zipWith (fun o F => (o.key, AV.ref F 0)) s.opn Fs)))
  don : ∃ g, O[ld]? = some (.map g (pm (s.don.map fun d => (d, AV.agg []))))
  lenF : Fs.length = s.opn.length
  lenP : Ps.length = s.opn.length
  rowF : ∀ i (h : i < s.opn.length), ∃ g, O[Fs.getD i 0]? = some (.cells [.lsl (Ps.getD i 0) g 0 s.opn[i].parts.toNat, i64 s.opn[i].l.length]) ∧ O[Ps.getD i 0]? = some (.arr 1 g ((slots s.opn[i]).map str))
  own1 : own lj = 1
  own2 : own lo = 2
  own3 : own ld = 3
  own4 : ∀ i, i < s.opn.length → own (Fs.getD i 0) = 4 + 2 * i
  own5 : ∀ i, i < s.opn.length → own (Ps.getD i 0) = 5 + 2 * i
  lt : ∀ l, own l ≠ 0 → l < O.length
def PRep (O : List AO) (lj : Nat) (s : St) (own : Nat → Nat) : Prop := ∃ lo ld Fs Ps, PAt O lj s own lo ld Fs Ps

theorem PAt.frame {O O' : List AO} {lj : Nat} {s : St} {own : Nat → Nat} {lo ld : Nat} {Fs Ps : List Nat} (h : PAt O lj s own lo ld Fs Ps) (hl : O.length ≤ O'.length) (hf : ∀ l, own l ≠ 0 → O'[l]? = O[l]?) : PAt O' lj s own lo ld Fs Ps := by
  obtain ⟨g2, h2⟩ := h.opn
  obtain ⟨g3, h3⟩ := h.don
  exact ⟨(hf _ (by rw [h.own1]; simp)).trans h.root, ⟨g2, (hf _ (by rw [h.own2]; simp)).trans h2⟩, ⟨g3, (hf _ (by rw [h.own3]; simp)).trans h3⟩, h.lenF, h.lenP,
    fun i hi => let ⟨g, k1, k2⟩ := h.rowF i hi; ⟨g, (hf _ (by rw [h.own4 i hi]; omega)).trans k1, (hf _ (by rw [h.own5 i hi]; omega)).trans k2⟩,
    h.own1, h.own2, h.own3, h.own4, h.own5, fun l hn => Nat.lt_of_lt_of_le (h.lt l hn) hl⟩
theorem PRep.frame {O O' : List AO} {lj : Nat} {s : St} {own : Nat → Nat} (h : PRep O lj s own) (hl : O.length ≤ O'.length) (hf : ∀ l, own l ≠ 0 → O'[l]? = O[l]?) : PRep O' lj s own := by
  obtain ⟨lo, ld, Fs, Ps, h⟩ := h
  exact ⟨lo, ld, Fs, Ps, h.frame hl hf⟩
theorem Left.sameP {O : List AO} {lr : Nat} {own : Nat → Nat} {s : St} {a : Ans} {J : List AO} (h : PRep O lr s own) : Left PRep O lr own (s, a) (ansAV a) (O ++ J) := by
  obtain ⟨lo, ld, Fs, Ps, h'⟩ := h
  exact ⟨rfl, own, PRep.frame ⟨lo, ld, Fs, Ps, h'⟩ (by simp) (fun l hl => List.getElem?_append_left (h'.lt l hl)), fun l hl _ => List.getElem?_append_left hl, fun l hl => .inl hl, by simp⟩

/-- Which frame a fragment finds. -/
theorem fndK_zip {f : Frag} : ∀ {os : List Opn} {Fs : List Nat}, Fs.length = os.length → fndK (f.fr, f.num) (List.zipWith (fun o F => (o.key, AV.ref F 0)) os Fs) = match os.findIdx? (·.is f) with | some k => some (.ref (Fs.getD k 0) 0) | none => none
  | [], [], _ => rfl
  | o :: os, F :: Fs, h => by
    have ih := fndK_zip (f := f) (os := os) (Fs := Fs) (by simpa using h)
    simp only [fndK, List.zipWith_cons_cons, List.find?_cons, List.findIdx?_cons] at ih ⊢
    have e : (o.key == (f.fr, f.num)) = o.is f := by simp only [Opn.key, Opn.is]; rfl
    rw [e]
    cases o.is f with
    | true => rfl
    | false =>
      simp only [Bool.false_eq_true, if_false]
      rw [ih]
      cases os.findIdx? (·.is f) <;> rfl
theorem fndK_don {x : Key} : ∀ {D : List Key}, fndK x (D.map fun d => (d, AV.agg [])) = if D.contains x then some (.agg []) else none
  | [] => rfl
  | d :: D => by
    have ih := fndK_don (x := x) (D := D)
    simp only [fndK, List.map_cons, List.find?_cons, List.contains_cons] at ih ⊢
    by_cases e : d = x
    · subst e; simp
    · have e1 : (d == x) = false := by simp [e]
      have e2 : (x == d) = false := by simp [Ne.symm e]
      simp only [e1, e2, Bool.false_or]; exact ih

theorem ok_part {f : Frag} (h : f.ok = true) : 0 ≤ f.part ∧ f.part < f.parts := by
  simp only [Frag.ok, Bool.and_eq_true, decide_eq_true_eq] at h
  exact ⟨h.1.1.2, h.1.2⟩
theorem ba_eq {a b : ByteArray} (h : (a == b) = true) : a = b := by
  have : (a.data == b.data) = true := h
  obtain ⟨a⟩ := a; obtain ⟨b⟩ := b
  simp at this; rw [this]
theorem bytesAt_any {l : List Frag} (hz : ∀ x ∈ l, x.bytes.size ≠ 0) {p : Int} (hp : 0 ≤ p) : l.any (·.part == p) = !(bytesAt l p.toNat == ⟨#[]⟩) := by
  unfold bytesAt
  have e : ((p.toNat : Nat) : Int) = p := by omega
  rw [e]
  cases h : l.find? (fun x => x.part == p) with
  | none =>
    rw [List.find?_eq_none] at h
    have : l.any (·.part == p) = false := by
      rw [Bool.eq_false_iff]; intro ha
      obtain ⟨x, hx, hxp⟩ := List.any_eq_true.1 ha
      exact h x hx hxp
    rw [this]; rfl
  | some x =>
    have hx := List.mem_of_find?_eq_some h
    have hxp := List.find?_some h
    have : l.any (·.part == p) = true := List.any_eq_true.2 ⟨x, hx, hxp⟩
    rw [this]
    have hne : (x.bytes == (⟨#[]⟩ : ByteArray)) = false := by
      rw [Bool.eq_false_iff]
      intro e; exact hz x hx (by rw [ba_eq e]; rfl)
    simp only [hne]; rfl

/-- What looking for a fragment's frame tells. -/
def F11 (s : St) (f : Frag) (Fs : List Nat) (O : List AO) (r : AV) (O' : List AO) : Prop := (∃ J, O' = O ++ J) ∧
      ((∃ e, e ≠ 0 ∧ r = .tup [.v (.pointer none), i64 e] ∧ s.step f = (s, no e)) ∨
       (r = .tup [.v (.pointer none), i64 0] ∧ f.ok = true ∧ s.don.contains (f.fr, f.num) = false ∧ s.opn.findIdx? (·.is f) = none ∧ s.opn.length < 50 ∧ s.step f = put8 ⟨s.opn ++ [⟨f.fr, f.num, f.parts, []⟩], s.don⟩ s.opn.length ⟨f.fr, f.num, f.parts, []⟩ f) ∨
       ∃ k, ∃ hk : k < s.opn.length, r = .tup [.ref (Fs.getD k 0) 0, i64 0] ∧ f.ok = true ∧ s.don.contains (f.fr, f.num) = false ∧ s.opn.findIdx? (·.is f) = some k ∧ s.opn[k].parts = f.parts ∧ s.opn[k].l.any (·.part == f.part) = false ∧ s.step f = put8 s k s.opn[k] f)

section
variable {P : Program} (hm : P.follows .mixedOrders = true)
include hm
theorem new6 (h : FnAt P 6 pc6 [0] 0) {O : List AO} {G : List Nat} : PCall P 6 [] O G fun r O' G' => r = .ref (O.length + 2) 0 ∧ O' = O ++ [.map 0 [], .map 0 [], .cells [.lm O.length, .lm (O.length + 1)]] := by
  refine FnAt.call hm h (Nat.le_refl _) ?_
  unfold pc6
  simp (maxSteps := 4000000) only [go_sem, ↓reduceIte, Nat.reduceAdd, Nat.reduceSub, Nat.reduceMul, Nat.reduceEqDiff, Nat.reduceLeDiff, Nat.reduceLT, Nat.reduceBEq, Nat.reduceBNe, Int.reduceToNat, Int.reduceLT, Int.reduceLE, Int.reduceNeg, Int.reduceEq, Int.reduceAdd, Int.reduceSub, Int.reduceMul, Int.reduceTDiv, Int.reduceTMod, reduceCtorEq]
  exact ⟨rfl, rfl⟩

theorem find11 (h17 : FnAt P 17 pc17 [2] 1) (h : FnAt P 11 pc11 [4,5] 2) {O : List AO} {G : List Nat} {lj lo ld : Nat} {s : St} {own : Nat → Nat} {Fs Ps : List Nat} {N : Nat} (hN : N ≤ 900) (hg : Good N s) (hr : PAt O lj s own lo ld Fs Ps) (f : Frag) :
    PCall P 11 [.ref lj 0, f.av] O G fun r O' G' => F11 s f Fs O r O' := by
  refine FnAt.call hm h (Nat.le_refl _) ?_
  obtain ⟨g2, ho⟩ := hr.opn
  obtain ⟨g3, hd⟩ := hr.don
  have hj := hr.root
  have hjl := lt_of_get hj
  have hol := lt_of_get ho
  have hdl := lt_of_get hd
  unfold pc11 Frag.av
  simp (maxSteps := 4000000) only [go_sem, ↓reduceIte, Nat.reduceAdd, Nat.reduceSub, Nat.reduceMul, Nat.reduceEqDiff, Nat.reduceLeDiff, Nat.reduceLT, Nat.reduceBEq, Nat.reduceBNe, Int.reduceToNat, Int.reduceLT, Int.reduceLE, Int.reduceNeg, Int.reduceEq, Int.reduceAdd, Int.reduceSub, Int.reduceMul, Int.reduceTDiv, Int.reduceTMod, reduceCtorEq]
  refine callP.of (fun _ => may17 hm h17 f) ?_
  simp (maxSteps := 4000000) only [go_sem, ↓reduceIte, Nat.reduceAdd, Nat.reduceSub, Nat.reduceMul, Nat.reduceEqDiff, Nat.reduceLeDiff, Nat.reduceLT, Nat.reduceBEq, Nat.reduceBNe, Int.reduceToNat, Int.reduceLT, Int.reduceLE, Int.reduceNeg, Int.reduceEq, Int.reduceAdd, Int.reduceSub, Int.reduceMul, Int.reduceTDiv, Int.reduceTMod, reduceCtorEq]
  split
  · rename_i hok
    have hok : f.ok = false := by simpa using hok
    exact ⟨⟨_, rfl⟩, .inl ⟨11, by decide, rfl, by simp [St.step, hok]⟩⟩
  · rename_i hok
    have hok : f.ok = true := by simpa using hok
    have hf3 := findM_pm (f.fr, f.num) (s.don.map fun d => (d, AV.agg []))
    rw [fndK_don] at hf3
    have hf2 := findM_pm (f.fr, f.num) (List.zipWith (fun o F => (o.key, AV.ref F 0)) s.opn Fs)
    rw [fndK_zip hr.lenF] at hf2
    have hkk := kEq_kv (f.fr, f.num) (f.fr, f.num)
    unfold kv at hf3 hf2 hkk
    have hml : (pm (List.zipWith (fun o F => (o.key, AV.ref F 0)) s.opn Fs)).length = s.opn.length := by rw [pm_len]; simp [hr.lenF]
    by_cases hc : s.don.contains (f.fr, f.num) = true
    · rw [if_pos hc] at hf3
      simp (maxSteps := 4000000) only [go_sem, ↓reduceIte, Nat.reduceAdd, Nat.reduceSub, Nat.reduceMul, Nat.reduceEqDiff, Nat.reduceLeDiff, Nat.reduceLT, Nat.reduceBEq, Nat.reduceBNe, Int.reduceToNat, Int.reduceLT, Int.reduceLE, Int.reduceNeg, Int.reduceEq, Int.reduceAdd, Int.reduceSub, Int.reduceMul, Int.reduceTDiv, Int.reduceTMod, reduceCtorEq, hj, hjl, hdl, hd, hf3, hkk]
      exact ⟨⟨_, rfl⟩, .inl ⟨210, by decide, rfl, by simp only [St.step, hok, hc]; simp⟩⟩
    · rw [if_neg hc] at hf3
      have hc : s.don.contains (f.fr, f.num) = false := by simpa using hc
      cases hfd : s.opn.findIdx? (·.is f) with
      | none =>
        rw [hfd] at hf2
        simp (maxSteps := 4000000) only [go_sem, ↓reduceIte, Nat.reduceAdd, Nat.reduceSub, Nat.reduceMul, Nat.reduceEqDiff, Nat.reduceLeDiff, Nat.reduceLT, Nat.reduceBEq, Nat.reduceBNe, Int.reduceToNat, Int.reduceLT, Int.reduceLE, Int.reduceNeg, Int.reduceEq, Int.reduceAdd, Int.reduceSub, Int.reduceMul, Int.reduceTDiv, Int.reduceTMod, reduceCtorEq, hj, hjl, hdl, hd, hf3, hkk, hol, ho, hf2, hml]
        split
        · rename_i hfull
          have hfull : (50 : Int) ≤ (s.opn.length : Int) := by simpa using hfull
          exact ⟨⟨_, rfl⟩, .inl ⟨211, by decide, rfl, by simp only [St.step, hok, hc, hfd]; simp; omega⟩⟩
        · rename_i hfull
          have hfull : ¬ (50 : Int) ≤ (s.opn.length : Int) := by simpa using hfull
          refine ⟨⟨_, rfl⟩, .inr (.inl ⟨rfl, hok, hc, hfd, by omega, ?_⟩)⟩
          simp only [St.step, hok, hc, hfd]
          simp [show ¬ 50 ≤ s.opn.length by omega]
      | some k =>
        rw [hfd] at hf2
        have hk : k < s.opn.length := (List.findIdx?_eq_some_iff_getElem.1 hfd).1
        have hog := hg.each _ (List.getElem_mem hk)
        have h1 := hog.parts1
        have h2 := hog.parts2
        obtain ⟨gp, hF, hP⟩ := hr.rowF k hk
        have hFl := lt_of_get hF
        have hPl := lt_of_get hP
        have hsl : ((slots s.opn[k]).map str).length = s.opn[k].parts.toNat := by simp [slots]
        have hpi : ((s.opn[k].parts.toNat : Nat) : Int) = s.opn[k].parts := by omega
        have hsome : s.opn[k]? = some s.opn[k] := List.getElem?_eq_getElem hk
        obtain ⟨p0, p1⟩ := ok_part hok
        by_cases hp : s.opn[k].parts = f.parts
        · have hi0 : (0 : Int) ≤ f.part := p0
          have hi1 : f.part < s.opn[k].parts := by omega
          have hi2 : f.part.toNat < s.opn[k].parts.toNat := by omega
          have hget : ((slots s.opn[k]).map str).getD f.part.toNat .any = str (bytesAt s.opn[k].l f.part.toNat) := by
            rw [getD_map str _ _ (by simp only [slots, List.length_map, List.length_range]; exact hi2)]
            simp [slots]
          have hp' : f.parts = s.opn[k].parts := hp.symm
          simp (maxSteps := 4000000) only [go_sem, ↓reduceIte, Nat.reduceAdd, Nat.reduceSub, Nat.reduceMul, Nat.reduceEqDiff, Nat.reduceLeDiff, Nat.reduceLT, Nat.reduceBEq, Nat.reduceBNe, Int.reduceToNat, Int.reduceLT, Int.reduceLE, Int.reduceNeg, Int.reduceEq, Int.reduceAdd, Int.reduceSub, Int.reduceMul, Int.reduceTDiv, Int.reduceTMod, reduceCtorEq, hj, hjl, hdl, hd, hf3, hkk, hol, ho, hf2, hml, hF, hFl, hP, hPl, hpi, hp', hi0, hi1, hi2, hsl, hget]
          split
          · rename_i hb
            refine ⟨⟨_, rfl⟩, .inl ⟨210, by decide, rfl, ?_⟩⟩
            have hany : s.opn[k].l.any (·.part == f.part) = true := by
              rw [bytesAt_any (fun x hx => (hog.each x hx).2.2.1) p0] ; simpa using hb
            simp only [St.step, hok, hc, hfd, hsome, hp, hany]; simp
          · rename_i hb
            have hany : s.opn[k].l.any (·.part == f.part) = false := by
              rw [bytesAt_any (fun x hx => (hog.each x hx).2.2.1) p0]; simpa using hb
            refine ⟨⟨_, rfl⟩, .inr (.inr ⟨k, hk, rfl, hok, hc, hfd, hp, hany, ?_⟩)⟩
            simp only [St.step, hok, hc, hfd, hsome, hp, hany]; simp
        · have hpb : (s.opn[k].parts == f.parts) = false := by simpa using hp
          simp (maxSteps := 4000000) only [go_sem, ↓reduceIte, Nat.reduceAdd, Nat.reduceSub, Nat.reduceMul, Nat.reduceEqDiff, Nat.reduceLeDiff, Nat.reduceLT, Nat.reduceBEq, Nat.reduceBNe, Int.reduceToNat, Int.reduceLT, Int.reduceLE, Int.reduceNeg, Int.reduceEq, Int.reduceAdd, Int.reduceSub, Int.reduceMul, Int.reduceTDiv, Int.reduceTMod, reduceCtorEq, hj, hjl, hdl, hd, hf3, hkk, hol, ho, hf2, hml, hF, hFl, hP, hPl, hpi, hsl, hpb]
          refine ⟨⟨_, rfl⟩, .inl ⟨11, by decide, rfl, ?_⟩⟩
          simp only [St.step, hok, hc, hfd, hsome]; simp [hp]
end
end Go.VL.Try
