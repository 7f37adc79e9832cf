/- Fragment: the program's joiner does what a fragment does to a state. -/
import Derived.Test.YtohccdodnpkpfaaFr4
set_option linter.unusedVariables false
set_option linter.unusedSimpArgs false
namespace Go.VL.Try
open Go.RowKit

/-- strings.Join is met by its contract. -/
def JoinAt (P : Program) (f : Nat) : Prop := ∀ {O : List AO} {G : List Nat} {l g : Nat} {bs : List ByteArray}, O[l]? = some (.arr 1 g (bs.map str)) → ∀ sep : ByteArray, bs.length ≤ 140737488355328 → (Lib.join (bs.map (·.data.toList)) sep.data.toList).length ≤ 140737488355328 →
  PQ P f [.lsl l g 0 bs.length, str sep] O G (str ⟨(Lib.join (bs.map (·.data.toList)) sep.data.toList).toArray⟩)

theorem delK_zip {f : Frag} : ∀ {os : List Opn} {Fs : List Nat} {k : Nat}, Fs.length = os.length → os.findIdx? (·.is f) = some k → delK (f.fr, f.num) (List.zipWith (fun o F => (o.key, AV.ref F 0)) os Fs) = List.zipWith (fun o F => (o.key, AV.ref F 0)) (os.take k ++ os.drop (k + 1)) (Fs.take k ++ Fs.drop (k + 1))
  | [], _, _, _, h => by simp at h
  | o :: os, F :: Fs, k, hl, h => by
    rw [List.findIdx?_cons] at h
    have e : (o.key = (f.fr, f.num)) ↔ o.is f = true := by simp [Opn.key, Opn.is]
    simp only [List.zipWith_cons_cons, delK, e]
    cases ho : o.is f with
    | true => rw [ho] at h; simp at h; subst h; simp
    | false =>
      rw [ho] at h
      simp only [Bool.false_eq_true, if_false, Option.map_eq_some_iff] at h
      obtain ⟨j, hj, rfl⟩ := h
      rw [if_neg (by simp), delK_zip (by simpa using hl) hj]
      rfl

theorem zip_key {k : Nat} {os : List Opn} {Fs : List Nat} {o' : Opn} (hk : k < os.length) (h : o'.key = os[k].key) : pm (List.zipWith (fun o F => (o.key, AV.ref F 0)) os Fs) = pm (List.zipWith (fun o F => (o.key, AV.ref F 0)) (os.set k o') Fs) := by
  congr 1
  induction os generalizing k Fs with
  | nil => simp at hk
  | cons o os ih =>
    cases Fs with
    | nil => simp
    | cons F Fs =>
      cases k with
      | zero => simp only [List.set_cons_zero, List.zipWith_cons_cons]; rw [h]; rfl
      | succ k => simp only [List.set_cons_succ, List.zipWith_cons_cons]; rw [ih (by simpa using hk) h]

section
variable {P : Program}
theorem end7 (hJ : JoinAt P 12) {O : List AO} {G : List Nat} {lj lo ld lf lk k : Nat} {s : St} {own : Nat → Nat} {Fs Ps : List Nat} {N : Nat} (hN : N ≤ 900) (hg : Good N s) (hr : PAt O lj s own lo ld Fs Ps)
    (hk : k < s.opn.length) {f : Frag} (hfd : s.opn.findIdx? (·.is f) = some k) (hc : s.don.contains (f.fr, f.num) = false) (hp : s.opn[k].parts = f.parts) (hn : s.opn[k].l.any (·.part == f.part) = false) (hok : f.ok = true) (hfb : f.bytes.size ≤ 100)
    (hlf : O[lf]? = some (.cells [i64 f.fr, i64 f.num, i64 f.part, i64 f.parts, str f.bytes])) (hlf' : own lf = 0) (hlk : O[lk]? = some (.cells [i64 f.fr, i64 f.num])) (hlk' : own lk = 0)
    {T : Tmps} (t0 : get T 0 = .ref lj 0) (t3 : get T 3 = .ref lf 0) (t7 : get T 7 = .ref (Fs.getD k 0) 0) (t8 : get T 8 = .ref lk 0) :
    pe (PSem P) pc7_1 (RetK [4, 5, 6] fun r O' G' => Left PRep O lj own (put8 s k s.opn[k] f) r O') T O G := by
  have hog := hg.each _ (List.getElem_mem hk)
  obtain ⟨g2, ho⟩ := hr.opn
  obtain ⟨g3, hd⟩ := hr.don
  obtain ⟨gp, hF, hP⟩ := hr.rowF k hk
  have hj := hr.root
  have o4 := hr.own4 k hk
  have o5 := hr.own5 k hk
  have h2 := hog.parts2
  have h1 := hog.parts1
  have hfew := hog.few
  obtain ⟨p0, p1⟩ := ok_part hok
  generalize hFe : Fs.getD k 0 = F at *
  generalize hPe : Ps.getD k 0 = p at *
  have hjl := lt_of_get hj
  have hol := lt_of_get ho
  have hdl := lt_of_get hd
  have hFl := lt_of_get hF
  have hpl := lt_of_get hP
  have hfl := lt_of_get hlf
  have hkl := lt_of_get hlk
  have own1 := hr.own1
  have own2 := hr.own2
  have own3 := hr.own3
  have n1 : p ≠ F := by rintro rfl; omega
  have n2 : p ≠ lf := by rintro rfl; omega
  have n3 : p ≠ lj := by rintro rfl; omega
  have n4 : p ≠ lo := by rintro rfl; omega
  have n5 : p ≠ lk := by rintro rfl; omega
  have n6 : p ≠ ld := by rintro rfl; omega
  have m2 : F ≠ lf := by rintro rfl; omega
  have m3 : F ≠ lj := by rintro rfl; omega
  have m4 : F ≠ lo := by rintro rfl; omega
  have m5 : F ≠ lk := by rintro rfl; omega
  have m6 : F ≠ ld := by rintro rfl; omega
  have m1 : F ≠ p := Ne.symm n1
  have q1 : lo ≠ lj := by rintro rfl; omega
  have q2 : lo ≠ lk := by rintro rfl; omega
  have q3 : lo ≠ ld := by rintro rfl; omega
  have q4 : lo ≠ F := Ne.symm m4
  have q5 : lo ≠ p := Ne.symm n4
  have q6 : ld ≠ F := Ne.symm m6
  have q7 : ld ≠ p := Ne.symm n6
  have hsl : ((slots s.opn[k]).map str).length = s.opn[k].parts.toNat := by simp [slots]
  have hpi : ((s.opn[k].parts.toNat : Nat) : Int) = s.opn[k].parts := by omega
  have hi1 : f.part < s.opn[k].parts := by omega
  have hi2 : f.part.toNat < s.opn[k].parts.toNat := by omega
  have hget : ((slots s.opn[k]).map str).getD f.part.toNat .any = str (bytesAt s.opn[k].l f.part.toNat) := by
    rw [getD_map str _ _ (by simp only [slots, List.length_map, List.length_range]; exact hi2)]
    simp [slots]
  let o' : Opn := { s.opn[k] with l := ins s.opn[k].l f }
  have hset : ((slots s.opn[k]).map str).set f.part.toNat (str f.bytes) = (slots o').map str := by rw [← List.map_set, slots_ins hn p0]
  have hlen : o'.l.length = s.opn[k].l.length + 1 := ins_len _ _
  have hw : IntKind.i64.wrap ((s.opn[k].l.length : Int) + 1) = (o'.l.length : Int) := by rw [wrap_in (by omega) (by omega), hlen]; rfl
  have hf3 := findM_pm (f.fr, f.num) (s.don.map fun d => (d, AV.agg []))
  rw [fndK_don, hc, if_neg (by simp)] at hf3
  have hf2 := findM_pm (f.fr, f.num) (List.zipWith (fun o F => (o.key, AV.ref F 0)) s.opn Fs)
  rw [fndK_zip hr.lenF, hfd] at hf2
  have hdm := delM_pm (f.fr, f.num) (List.zipWith (fun o F => (o.key, AV.ref F 0)) s.opn Fs)
  rw [delK_zip hr.lenF hfd] at hdm
  have hkk := kEq_kv (f.fr, f.num) (f.fr, f.num)
  have hpn : ∀ a, pm (s.don.map fun d => (d, AV.agg [])) ++ [(kv (f.fr, f.num), a)] = pm ((s.don.map fun d => (d, AV.agg [])) ++ [((f.fr, f.num), a)]) := fun a => pm_snoc _ _ _
  unfold kv at hf3 hf2 hkk hdm hpn
  unfold pc7_1
  by_cases hlt : (o'.l.length : Int) < f.parts
  · simp (maxSteps := 4000000) only [go_sem, ↓reduceIte, Nat.reduceAdd, Nat.reduceSub, Nat.reduceMul, Nat.reduceEqDiff, Nat.reduceLeDiff, Nat.reduceLT, Nat.reduceBEq, Nat.reduceBNe, Int.reduceToNat, Int.reduceLT, Int.reduceLE, Int.reduceNeg, Int.reduceEq, Int.reduceAdd, Int.reduceSub, Int.reduceMul, Int.reduceTDiv, Int.reduceTMod, reduceCtorEq, t0, t3, t7, t8, hF, hP, hlf, hpi, p0, hi1, hi2, hsl, hget, hset, n1, n2, m1, m2, hFl, hpl, hw, hlt]
    have e : put8 s k s.opn[k] f = (⟨s.opn.set k o', s.don⟩, no 0) := by unfold put8; rw [if_pos (by rw [hp]; exact hlt)]
    show Left PRep O lj own (put8 s k s.opn[k] f) _ _
    rw [e]
    have keep : ∀ l, l ≠ p → l ≠ F → ((O.set p (AO.arr 1 gp (List.map str (slots o')))).set F (AO.cells [AV.lsl p gp 0 s.opn[k].parts.toNat, AV.v (Value.int IntKind.i64 ↑o'.l.length)]))[l]? = O[l]? := by
      intro l h1 h2
      rw [List.getElem?_set_ne (Ne.symm h2), List.getElem?_set_ne (Ne.symm h1)]
    refine ⟨rfl, own, ⟨lo, ld, Fs, Ps, (keep lj (Ne.symm n3) (Ne.symm m3)).trans hj, ⟨g2, (keep lo q5 q4).trans ?_⟩, ⟨g3, (keep ld q7 q6).trans hd⟩, by simp [hr.lenF], by simp [hr.lenP], ?_, own1, own2, own3, ?_, ?_, ?_⟩, ?_, fun l hl => .inl hl, by simp⟩
    · rw [ho, zip_key (o' := o') hk rfl]
    · intro i hi
      have hi' : i < s.opn.length := by simpa using hi
      by_cases ei : i = k
      · subst ei
        rw [hFe, hPe]
        refine ⟨gp, ?_, ?_⟩
        · rw [List.getElem?_set_self (by simp; exact hFl)]
          simp [o']
        · rw [List.getElem?_set_ne m1, List.getElem?_set_self hpl]
          simp
      · obtain ⟨g, k1, k2⟩ := hr.rowF i hi'
        have w1 := hr.own4 i hi'
        have w2 := hr.own5 i hi'
        refine ⟨g, ?_, ?_⟩
        · rw [keep _ (by intro e; rw [e] at w1; omega) (by intro e; rw [e] at w1; omega), k1]
          simp [List.getElem_set_ne (Ne.symm ei)]
        · rw [keep _ (by intro e; rw [e] at w2; omega) (by intro e; rw [e] at w2; omega), k2]
          simp [List.getElem_set_ne (Ne.symm ei)]
    · intro i hi; exact hr.own4 i (by simpa using hi)
    · intro i hi; exact hr.own5 i (by simpa using hi)
    · intro l hl; simp; exact hr.lt l hl
    · intro l hl hz
      exact keep l (by rintro rfl; omega) (by rintro rfl; omega)
  · simp (maxSteps := 4000000) only [go_sem, ↓reduceIte, Nat.reduceAdd, Nat.reduceSub, Nat.reduceMul, Nat.reduceEqDiff, Nat.reduceLeDiff, Nat.reduceLT, Nat.reduceBEq, Nat.reduceBNe, Int.reduceToNat, Int.reduceLT, Int.reduceLE, Int.reduceNeg, Int.reduceEq, Int.reduceAdd, Int.reduceSub, Int.reduceMul, Int.reduceTDiv, Int.reduceTMod, reduceCtorEq, t0, t3, t7, t8, hF, hP, hlf, hpi, p0, hi1, hi2, hsl, hget, hset, n1, n2, n3, n4, n5, n6, m1, m2, m3, m4, m5, m6, hFl, hpl, hw, hlt, hj, ho, hd, hlk, q1, q2, q3, q4, q5, q6, q7, Ne.symm q1, Ne.symm q3, hol, hdl, hkl, hf2, hf3, hdm, hkk, hpn]
    have hfull : (o'.l.length : Int) = o'.parts := by
      show (o'.l.length : Int) = s.opn[k].parts
      omega
    have hso := ins_sorted hog.sorted hn
    have hsf : slots o' = o'.l.map (·.bytes) := slots_full hso (fun x hx => by
      rcases mem_ins.1 hx with rfl | hx
      · exact ⟨p0, by show x.part < s.opn[k].parts; omega⟩
      · exact ⟨(hog.each x hx).1, (hog.each x hx).2.1⟩) hfull
    have e : put8 s k s.opn[k] f = (⟨s.opn.take k ++ s.opn.drop (k + 1), s.don ++ [(f.fr, f.num)]⟩, (cat o'.l, true, 0)) := by unfold put8; rw [if_neg (by rw [hp]; exact hlt)]
    have hcj := cat_join o'.l
    rw [← hsf] at hcj
    have hcs := cat_size (l := o'.l) (ins_bytes (fun x hx => (hog.each x hx).2.2.2) hfb)
    have hsl2 : (slots o').length = s.opn[k].parts.toNat := by simp [slots, o']
    have keep : ∀ l, l ≠ p → l ≠ F → l ≠ lo → l ≠ ld → ((((O.set p (AO.arr 1 gp (List.map str (slots o')))).set F (AO.cells [AV.lsl p gp 0 s.opn[k].parts.toNat, AV.v (Value.int IntKind.i64 ↑o'.l.length)])).set lo (AO.map (g2 + 1) (pm (List.zipWith (fun o F => (o.key, AV.ref F 0)) (List.take k s.opn ++ List.drop (k + 1) s.opn) (List.take k Fs ++ List.drop (k + 1) Fs))))).set
      ld (AO.map (g3 + 1) (pm (List.map (fun d => (d, AV.agg [])) s.don ++ [((f.fr, f.num), AV.agg [])]))))[l]? = O[l]? := by
      intro l h1 h2 h3 h4
      rw [List.getElem?_set_ne (Ne.symm h4), List.getElem?_set_ne (Ne.symm h3), List.getElem?_set_ne (Ne.symm h2), List.getElem?_set_ne (Ne.symm h1)]
    have e1 : ((((O.set p (AO.arr 1 gp (List.map str (slots o')))).set F (AO.cells [AV.lsl p gp 0 s.opn[k].parts.toNat, AV.v (Value.int IntKind.i64 ↑o'.l.length)])).set lo (AO.map (g2 + 1) (pm (List.zipWith (fun o F => (o.key, AV.ref F 0)) (List.take k s.opn ++ List.drop (k + 1) s.opn) (List.take k Fs ++ List.drop (k + 1) Fs))))).set
      ld (AO.map (g3 + 1) (pm (List.map (fun d => (d, AV.agg [])) s.don ++ [((f.fr, f.num), AV.agg [])]))))[p]? = some (AO.arr 1 gp (List.map str (slots o'))) := by
      rw [List.getElem?_set_ne q7, List.getElem?_set_ne q5, List.getElem?_set_ne m1, List.getElem?_set_self hpl]
    have e2 : ((((O.set p (AO.arr 1 gp (List.map str (slots o')))).set F (AO.cells [AV.lsl p gp 0 s.opn[k].parts.toNat, AV.v (Value.int IntKind.i64 ↑o'.l.length)])).set lo (AO.map (g2 + 1) (pm (List.zipWith (fun o F => (o.key, AV.ref F 0)) (List.take k s.opn ++ List.drop (k + 1) s.opn) (List.take k Fs ++ List.drop (k + 1) Fs))))).set
      ld (AO.map (g3 + 1) (pm (List.map (fun d => (d, AV.agg [])) s.don ++ [((f.fr, f.num), AV.agg [])]))))[lo]? = some (AO.map (g2 + 1) (pm (List.zipWith (fun o F => (o.key, AV.ref F 0)) (List.take k s.opn ++ List.drop (k + 1) s.opn) (List.take k Fs ++ List.drop (k + 1) Fs)))) := by
      rw [List.getElem?_set_ne (Ne.symm q3), List.getElem?_set_self (by simp; exact hol)]
    have e3 : ((((O.set p (AO.arr 1 gp (List.map str (slots o')))).set F (AO.cells [AV.lsl p gp 0 s.opn[k].parts.toNat, AV.v (Value.int IntKind.i64 ↑o'.l.length)])).set lo (AO.map (g2 + 1) (pm (List.zipWith (fun o F => (o.key, AV.ref F 0)) (List.take k s.opn ++ List.drop (k + 1) s.opn) (List.take k Fs ++ List.drop (k + 1) Fs))))).set
      ld (AO.map (g3 + 1) (pm (List.map (fun d => (d, AV.agg [])) s.don ++ [((f.fr, f.num), AV.agg [])]))))[ld]? = some (AO.map (g3 + 1) (pm (List.map (fun d => (d, AV.agg [])) s.don ++ [((f.fr, f.num), AV.agg [])]))) := by
      rw [List.getElem?_set_self (by simp; exact hdl)]
    have e4 : ((((O.set p (AO.arr 1 gp (List.map str (slots o')))).set F (AO.cells [AV.lsl p gp 0 s.opn[k].parts.toNat, AV.v (Value.int IntKind.i64 ↑o'.l.length)])).set lo (AO.map (g2 + 1) (pm (List.zipWith (fun o F => (o.key, AV.ref F 0)) (List.take k s.opn ++ List.drop (k + 1) s.opn) (List.take k Fs ++ List.drop (k + 1) Fs))))).set
      ld (AO.map (g3 + 1) (pm (List.map (fun d => (d, AV.agg [])) s.don ++ [((f.fr, f.num), AV.agg [])])))).length = O.length := by simp
    have hj2 := hJ (G := G) e1 ⟨#[]⟩ (by rw [hsl2]; omega) (by
      have : (ByteArray.mk #[]).data.toList = [] := rfl
      rw [this, hcj]
      have : (cat o'.l).data.toList.length = (cat o'.l).size := rfl
      omega)
    have hres : (ByteArray.mk (Lib.join ((slots o').map (·.data.toList)) (ByteArray.mk #[]).data.toList).toArray) = cat o'.l := by
      have : (ByteArray.mk #[]).data.toList = [] := rfl
      rw [this, hcj]
    rw [hres, hsl2] at hj2
    generalize ((((O.set p (AO.arr 1 gp (List.map str (slots o')))).set F (AO.cells [AV.lsl p gp 0 s.opn[k].parts.toNat, AV.v (Value.int IntKind.i64 ↑o'.l.length)])).set lo (AO.map (g2 + 1) (pm (List.zipWith (fun o F => (o.key, AV.ref F 0)) (List.take k s.opn ++ List.drop (k + 1) s.opn) (List.take k Fs ++ List.drop (k + 1) Fs))))).set
      ld (AO.map (g3 + 1) (pm (List.map (fun d => (d, AV.agg [])) s.don ++ [((f.fr, f.num), AV.agg [])])))) = O3 at *
    refine callC.of hj2 ?_
    rintro r O' G' ⟨rfl, rfl, rfl⟩
    show Left PRep O lj own (put8 s k s.opn[k] f) _ _
    rw [e]
    -- without the frame
    have hFl2 : (Fs.take k).length = k := by rw [List.length_take, hr.lenF]; omega
    have hPl2 : (Ps.take k).length = k := by rw [List.length_take, hr.lenP]; omega
    have hol2 : (s.opn.take k).length = k := by rw [List.length_take]; omega
    have gF : ∀ (L : List Nat) (hL : (L.take k).length = k) i, (L.take k ++ L.drop (k + 1)).getD i 0 = L.getD (if i < k then i else i + 1) 0 := by
      intro L hL i
      simp only [List.getD_eq_getElem?_getD]
      split
      · rename_i h; rw [List.getElem?_append_left (by omega), List.getElem?_take, if_pos h]
      · rename_i h; rw [List.getElem?_append_right (by omega), hL, List.getElem?_drop]; congr 2; omega
    have go : ∀ i (h : i < (s.opn.take k ++ s.opn.drop (k + 1)).length), ∃ h', (s.opn.take k ++ s.opn.drop (k + 1))[i] = s.opn[if i < k then i else i + 1]'h' := by
      intro i h
      simp at h
      refine ⟨by split <;> omega, ?_⟩
      split
      · rename_i h2; rw [List.getElem_append_left (by omega), List.getElem_take]
      · rename_i h2
        rw [List.getElem_append_right (by omega), List.getElem_drop]
        congr 1; omega
    let own' : Nat → Nat := fun l => if own l = 4 + 2 * k then 0 else if own l = 5 + 2 * k then 0 else if 5 + 2 * k < own l then own l - 2 else own l
    refine ⟨rfl, own', ⟨lo, ld, Fs.take k ++ Fs.drop (k + 1), Ps.take k ++ Ps.drop (k + 1), (keep lj (Ne.symm n3) (Ne.symm m3) (Ne.symm q1) ?_).trans hj, ⟨_, e2⟩, ⟨g3 + 1, ?_⟩, ?_, ?_, ?_, ?_, ?_, ?_, ?_, ?_, ?_⟩, ?_, ?_, ?_⟩
    · rintro rfl; omega
    · rw [e3]; simp
    · simp [hr.lenF]
    · simp [hr.lenP]
    · intro i hi
      obtain ⟨h', ei⟩ := go i hi
      obtain ⟨g, k1, k2⟩ := hr.rowF _ h'
      have w1 := hr.own4 _ h'
      have w2 := hr.own5 _ h'
      rw [gF Fs hFl2 i, gF Ps hPl2 i]
      dsimp only
      rw [ei]
      refine ⟨g, ?_, ?_⟩
      · rw [keep _ (by intro e; rw [e] at w1; omega) (by intro e; rw [e] at w1; split at w1 <;> omega) (by intro e; rw [e] at w1; omega) (by intro e; rw [e] at w1; omega), k1]
      · rw [keep _ (by intro e; rw [e] at w2; split at w2 <;> omega) (by intro e; rw [e] at w2; omega) (by intro e; rw [e] at w2; omega) (by intro e; rw [e] at w2; omega), k2]
    · show (if own lj = 4 + 2 * k then 0 else if own lj = 5 + 2 * k then 0 else if 5 + 2 * k < own lj then own lj - 2 else own lj) = 1
      rw [own1]; (repeat' split) <;> omega
    · show (if own lo = 4 + 2 * k then 0 else if own lo = 5 + 2 * k then 0 else if 5 + 2 * k < own lo then own lo - 2 else own lo) = 2
      rw [own2]; (repeat' split) <;> omega
    · show (if own ld = 4 + 2 * k then 0 else if own ld = 5 + 2 * k then 0 else if 5 + 2 * k < own ld then own ld - 2 else own ld) = 3
      rw [own3]; (repeat' split) <;> omega
    · intro i hi
      obtain ⟨h', ei⟩ := go i hi
      have w1 := hr.own4 _ h'
      rw [gF Fs hFl2 i]
      simp only [own']
      rw [w1]
      (repeat' split) <;> omega
    · intro i hi
      obtain ⟨h', ei⟩ := go i hi
      have w1 := hr.own5 _ h'
      rw [gF Ps hPl2 i]
      simp only [own']
      rw [w1]
      (repeat' split) <;> omega
    · intro l hl
      have : own l ≠ 0 := by
        intro h
        simp only [own', h] at hl
        revert hl
        (repeat' split) <;> omega
      rw [e4]; exact hr.lt l this
    · intro l hl hz
      exact keep l (by rintro rfl; omega) (by rintro rfl; omega) (by rintro rfl; omega) (by rintro rfl; omega)
    · intro l hl
      left; intro h
      simp only [own', h] at hl
      revert hl
      (repeat' split) <;> omega
    · rw [e4]; exact Nat.le_refl _

theorem take7 (hm : P.follows .mixedOrders = true) (hJ : JoinAt P 12) (h17 : FnAt P 17 pc17 [2] 1) (h11 : FnAt P 11 pc11 [4,5] 2) (h : FnAt P 7 pc7 [4,5,6] 2) {O : List AO} {G : List Nat} {lj : Nat} {s : St} {own : Nat → Nat} {N : Nat} (hN : N ≤ 900) (hg : Good N s)
    (hr : PRep O lj s own) (f : Frag) (hfb : f.bytes.size ≤ 100) : PCall P 7 [.ref lj 0, f.av] O G fun r O' G' => Left PRep O lj own (s.step f) r O' := by
  refine FnAt.call hm h (Nat.le_refl _) ?_
  have hr0 := hr
  obtain ⟨lo, ld, Fs, Ps, hr⟩ := hr
  unfold pc7 Frag.av
  simp (maxSteps := 4000000) only [go_sem, ↓reduceIte, Nat.reduceAdd, Nat.reduceSub, Nat.reduceMul, Nat.reduceEqDiff, Nat.reduceLeDiff, Nat.reduceLT, Nat.reduceBEq, Nat.reduceBNe, Int.reduceToNat, Int.reduceLT, Int.reduceLE, Int.reduceNeg, Int.reduceEq, Int.reduceAdd, Int.reduceSub, Int.reduceMul, Int.reduceTDiv, Int.reduceTMod, reduceCtorEq]
  have hr1 : PAt (O ++ [AO.cells [i64 f.fr, i64 f.num, i64 f.part, i64 f.parts, str f.bytes]]) lj s own lo ld Fs Ps := hr.frame (by simp) fun l hl => List.getElem?_append_left (hr.lt l hl)
  refine callC.of (find11 hm h17 h11 hN hg hr1 f) ?_
  rintro r O' G' ⟨⟨J, rfl⟩, h⟩
  have hr2 : PAt (O ++ [AO.cells [i64 f.fr, i64 f.num, i64 f.part, i64 f.parts, str f.bytes]] ++ J) lj s own lo ld Fs Ps := hr1.frame (by simp) fun l hl => List.getElem?_append_left (hr1.lt l hl)
  have hof : own O.length = 0 := by
    apply Classical.byContradiction
    intro hn; have := hr.lt _ hn; omega
  have hz : ∀ l, O.length ≤ l → own l = 0 := by
    intro l hl
    apply Classical.byContradiction
    intro hn; have := hr.lt _ hn; omega
  rcases h with ⟨e, he, rfl, hst⟩ | ⟨rfl, hok, hc, hfd, hlt, hst⟩ | ⟨k, hk, rfl, hok, hc, hfd, hp, hn, hst⟩
  · have he' : (e == 0) = false := by simpa using he
    simp (maxSteps := 4000000) only [go_sem, ↓reduceIte, Nat.reduceAdd, Nat.reduceSub, Nat.reduceMul, Nat.reduceEqDiff, Nat.reduceLeDiff, Nat.reduceLT, Nat.reduceBEq, Nat.reduceBNe, Int.reduceToNat, Int.reduceLT, Int.reduceLE, Int.reduceNeg, Int.reduceEq, Int.reduceAdd, Int.reduceSub, Int.reduceMul, Int.reduceTDiv, Int.reduceTMod, reduceCtorEq, he']
    show Left PRep O lj own (s.step f) _ _
    rw [hst]
    exact Left.sameP hr0
  · -- a new frame
    let o : Opn := ⟨f.fr, f.num, f.parts, []⟩
    let s1 : St := ⟨s.opn ++ [o], s.don⟩
    have p2 : 1 ≤ f.parts ∧ f.parts ≤ 1000 := by
      simp only [Frag.ok, Bool.and_eq_true, decide_eq_true_eq] at hok
      exact ⟨hok.1.1.1.1.2, hok.1.1.1.2⟩
    have b1 : (0 : Int) ≤ f.parts := by omega
    have b2 : f.parts * 16 ≤ 140737488355328 := by omega
    have b3 : f.parts ≤ 140737488355328 := by omega
    obtain ⟨g2, ho⟩ := hr.opn
    have hj := hr.root
    have hjl := lt_of_get hj
    have hol := lt_of_get ho
    have hf2 := findM_pm (f.fr, f.num) (List.zipWith (fun o F => (o.key, AV.ref F 0)) s.opn Fs)
    rw [fndK_zip hr.lenF, hfd] at hf2
    have hkk := kEq_kv (f.fr, f.num) (f.fr, f.num)
    unfold kv at hf2 hkk
    simp (maxSteps := 4000000) only [go_sem, ↓reduceIte, Nat.reduceAdd, Nat.reduceSub, Nat.reduceMul, Nat.reduceEqDiff, Nat.reduceLeDiff, Nat.reduceLT, Nat.reduceBEq, Nat.reduceBNe, Int.reduceToNat, Int.reduceLT, Int.reduceLE, Int.reduceNeg, Int.reduceEq, Int.reduceAdd, Int.reduceSub, Int.reduceMul, Int.reduceTDiv, Int.reduceTMod, reduceCtorEq, b1, b2, b3, hj, hjl, ho, hol, hf2, hkk]
    refine ⟨Int.le_refl _, ?_⟩
    rw [hst]
    have hnl : s.opn.length < s1.opn.length := by simp [s1]
    have hs1k : s1.opn[s.opn.length] = o := by simp [s1]
    have hzip : List.zipWith (fun (o : Opn) F => (o.key, AV.ref F 0)) s1.opn (Fs ++ [O.length + (J.length + 2 + 1)]) = List.zipWith (fun (o : Opn) F => (o.key, AV.ref F 0)) s.opn Fs ++ [((f.fr, f.num), AV.ref (O.length + (J.length + 2 + 1)) 0)] := by
      rw [show s1.opn = s.opn ++ [o] from rfl, List.zipWith_append hr.lenF.symm]; rfl
    have hpn : pm (List.zipWith (fun (o : Opn) F => (o.key, AV.ref F 0)) s.opn Fs) ++ [(Value.agg #[Value.int IntKind.i64 f.fr, Value.int IntKind.i64 f.num], AV.ref (O.length + (J.length + 2 + 1)) 0)] = pm (List.zipWith (fun (o : Opn) F => (o.key, AV.ref F 0)) s1.opn (Fs ++ [O.length + (J.length + 2 + 1)])) := by
      rw [hzip, ← pm_snoc]; rfl
    rw [hpn]
    let own1 : Nat → Nat := fun l => if l = O.length + (J.length + 2 + 1) then 4 + 2 * s.opn.length else if l = O.length + (J.length + 1 + 1) then 5 + 2 * s.opn.length else own l
    have o1 : ∀ l, l < O.length → own1 l = own l := by
      intro l hl
      simp only [own1]
      rw [if_neg (by omega), if_neg (by omega)]
    have gF : ∀ (L : List Nat) (x : Nat), L.length = s.opn.length → ∀ i, (L ++ [x]).getD i 0 = if i < s.opn.length then L.getD i 0 else if i = s.opn.length then x else 0 := by
      intro L x hL i
      simp only [List.getD_eq_getElem?_getD]
      split
      · rw [List.getElem?_append_left (by omega)]
      · split
        · rename_i e; subst e; rw [← hL, List.getElem?_concat_length]; rfl
        · rw [List.getElem?_eq_none (by simp; omega)]; rfl
    have hsl : slots o = List.replicate f.parts.toNat ⟨#[]⟩ := by
      unfold slots
      apply List.ext_getElem
      · simp [o]
      · intro i h1 h2; simp [o, bytesAt]
    obtain ⟨g3, hd⟩ := hr.don
    generalize hO1 : O.set lo (AO.map (g2 + 1) (pm (List.zipWith (fun (o : Opn) F => (o.key, AV.ref F 0)) s1.opn (Fs ++ [O.length + (J.length + 2 + 1)])))) ++ AO.cells [i64 f.fr, i64 f.num, i64 f.part, i64 f.parts, str f.bytes] :: (J ++ [AO.cells [i64 f.fr, i64 f.num], AO.arr 1 0 (List.replicate f.parts.toNat (AV.v (Value.string { data := #[] }))), AO.cells [AV.lsl (O.length + (J.length + 1 + 1)) 0 0 f.parts.toNat, AV.v (Value.int IntKind.i64 0)]]) = O1
    have hlen : O1.length = O.length + (J.length + 4) := by rw [← hO1]; simp
    have c0 : ∀ l, l < O.length → l ≠ lo → O1[l]? = O[l]? := by
      intro l hl hn
      rw [← hO1, List.getElem?_append_left (by simp; exact hl), List.getElem?_set_ne (Ne.symm hn)]
    have c1 : O1[lo]? = some (AO.map (g2 + 1) (pm (List.zipWith (fun (o : Opn) F => (o.key, AV.ref F 0)) s1.opn (Fs ++ [O.length + (J.length + 2 + 1)])))) := by
      rw [← hO1, List.getElem?_append_left (by simp; exact hol), List.getElem?_set_self hol]
    have c2 : O1[O.length]? = some (AO.cells [i64 f.fr, i64 f.num, i64 f.part, i64 f.parts, str f.bytes]) := by
      rw [← hO1, app_get0' (by simp)]; rfl
    have c3 : O1[O.length + (J.length + 1)]? = some (AO.cells [i64 f.fr, i64 f.num]) := by
      rw [← hO1, app_getk' (by simp), List.getElem?_cons_succ, app_get0]; rfl
    have c4 : O1[O.length + (J.length + 1 + 1)]? = some (AO.arr 1 0 ((slots o).map str)) := by
      rw [← hO1, app_getk' (by simp), List.getElem?_cons_succ, app_getk, hsl]; simp
    have c5 : O1[O.length + (J.length + 2 + 1)]? = some (AO.cells [AV.lsl (O.length + (J.length + 1 + 1)) 0 0 f.parts.toNat, AV.v (Value.int IntKind.i64 0)]) := by
      rw [← hO1, app_getk' (by simp), List.getElem?_cons_succ, app_getk]; rfl
    have hr3 : PAt O1 lj s1 own1 lo ld (Fs ++ [O.length + (J.length + 2 + 1)]) (Ps ++ [O.length + (J.length + 1 + 1)]) := by
      have own1' := hr.own1
      have own2' := hr.own2
      have own3' := hr.own3
      refine ⟨(c0 lj hjl (by rintro rfl; omega)).trans hj, ⟨_, c1⟩, ⟨g3, (c0 ld (lt_of_get hd) (by rintro rfl; omega)).trans hd⟩, by simp [s1, hr.lenF], by simp [s1, hr.lenP], ?_, (o1 lj hjl).trans own1', (o1 lo hol).trans own2', (o1 ld (lt_of_get hd)).trans own3', ?_, ?_, ?_⟩
      · intro i hi
        rw [gF Fs _ hr.lenF, gF Ps _ hr.lenP]
        simp only [s1, List.length_append, List.length_singleton] at hi
        by_cases ei : i < s.opn.length
        · rw [if_pos ei, if_pos ei]
          obtain ⟨g, k1, k2⟩ := hr.rowF i ei
          have w1 := hr.own4 i ei
          have w2 := hr.own5 i ei
          have es : s1.opn[i] = s.opn[i] := List.getElem_append_left ei
          rw [es]
          exact ⟨g, (c0 _ (lt_of_get k1) (by intro e; rw [e] at w1; omega)).trans k1, (c0 _ (lt_of_get k2) (by intro e; rw [e] at w2; omega)).trans k2⟩
        · obtain rfl : i = s.opn.length := by omega
          rw [if_neg (by omega), if_pos rfl, if_neg (by omega), if_pos rfl, hs1k]
          exact ⟨0, c5, c4⟩
      · intro i hi
        rw [gF Fs _ hr.lenF]
        simp only [s1, List.length_append, List.length_singleton] at hi
        by_cases ei : i < s.opn.length
        · rw [if_pos ei, o1 _ (by obtain ⟨g, k1, k2⟩ := hr.rowF i ei; exact lt_of_get k1)]; exact hr.own4 i ei
        · obtain rfl : i = s.opn.length := by omega
          rw [if_neg (by omega), if_pos rfl]; simp [own1]
      · intro i hi
        rw [gF Ps _ hr.lenP]
        simp only [s1, List.length_append, List.length_singleton] at hi
        by_cases ei : i < s.opn.length
        · rw [if_pos ei, o1 _ (by obtain ⟨g, k1, k2⟩ := hr.rowF i ei; exact lt_of_get k2)]; exact hr.own5 i ei
        · obtain rfl : i = s.opn.length := by omega
          rw [if_neg (by omega)]; simp
          simp only [own1]
          rw [if_neg (by omega)]; simp
      · intro l hl
        simp only [own1] at hl
        split at hl
        · omega
        · split at hl
          · omega
          · have := hr.lt l hl; omega
    have hg1 : Good N s1 := ⟨by simp [s1]; omega, hg.don, by
        intro x hx
        rcases List.mem_append.1 hx with hx | hx
        · exact hg.each x hx
        · obtain rfl : x = o := by simpa using hx
          exact ⟨p2.1, p2.2, by simp [o]; omega, by simp [o], List.Pairwise.nil⟩, by
        show (s.opn ++ [o]).Pairwise _
        rw [List.pairwise_append]
        refine ⟨hg.uniq, List.pairwise_singleton _ _, ?_⟩
        intro a ha b hb
        obtain rfl : b = o := by simpa using hb
        rw [List.findIdx?_eq_none_iff] at hfd
        have := hfd a ha
        simpa [Opn.is, o] using this⟩
    have hfd1 : s1.opn.findIdx? (·.is f) = some s.opn.length := by
      rw [List.findIdx?_eq_some_iff_getElem]
      refine ⟨hnl, by rw [hs1k]; simp [o, Opn.is], ?_⟩
      intro j hj
      have e : s1.opn[j] = s.opn[j] := List.getElem_append_left hj
      rw [e]
      rw [List.findIdx?_eq_none_iff] at hfd
      simpa using hfd _ (List.getElem_mem hj)
    have hF1 : (Fs ++ [O.length + (J.length + 2 + 1)]).getD s.opn.length 0 = O.length + (J.length + 2 + 1) := by rw [gF Fs _ hr.lenF, if_neg (by omega), if_pos rfl]
    have hend := end7 hJ hN hg1 (G := G') hr3 hnl hfd1 hc (by rw [hs1k]) (by rw [hs1k]; rfl) hok hfb c2 (by simp only [own1]; rw [if_neg (by omega), if_neg (by omega)]; exact hof) c3 (by simp only [own1]; rw [if_neg (by omega), if_neg (by omega)]; exact hz _ (by omega))
      (T := [(0, AV.ref lj 0), (3, AV.ref O.length 0), (7, AV.ref (O.length + (J.length + 2 + 1)) 0), (8, AV.ref (O.length + (J.length + 1)) 0)]) rfl rfl (by rw [hF1]; rfl) rfl
    rw [hs1k] at hend
    refine pe_mono (PSem.cmono P) ?_ hend
    rintro ex T O' G' hq
    cases ex <;> first | exact hq | skip
    all_goals exact Left.trans hq (fun l hl hn => ⟨c0 l hl (by rintro rfl; rw [hr.own2] at hn; omega), (o1 l hl).trans hn⟩) (by omega)
  · simp (maxSteps := 4000000) only [go_sem, ↓reduceIte, Nat.reduceAdd, Nat.reduceSub, Nat.reduceMul, Nat.reduceEqDiff, Nat.reduceLeDiff, Nat.reduceLT, Nat.reduceBEq, Nat.reduceBNe, Int.reduceToNat, Int.reduceLT, Int.reduceLE, Int.reduceNeg, Int.reduceEq, Int.reduceAdd, Int.reduceSub, Int.reduceMul, Int.reduceTDiv, Int.reduceTMod, reduceCtorEq]
    rw [hst]
    have hof1 : own (O.length + (J.length + 1)) = 0 := hz _ (by omega)
    refine pe_mono (PSem.cmono P) ?_ (end7 hJ hN hg (Fs := Fs) (Ps := Ps) (lo := lo) (ld := ld) (G := G') (lf := O.length) (lk := O.length + (J.length + 1)) (O := O ++ (AO.cells [i64 f.fr, i64 f.num, i64 f.part, i64 f.parts, str f.bytes] :: (J ++ [AO.cells [i64 f.fr, i64 f.num]]))) ?_ hk hfd hc hp hn hok hfb ?_ hof ?_ hof1 rfl rfl rfl rfl)
    · rintro ex T O' G' hq
      cases ex <;> first | exact hq | skip
      all_goals exact Left.trans hq (fun l hl hn => ⟨List.getElem?_append_left hl, hn⟩) (by simp)
    · exact hr.frame (by simp) fun l hl => List.getElem?_append_left (hr.lt l hl)
    · rw [app_get0]; rfl
    · rw [app_getk, List.getElem?_cons_succ, app_get0]; rfl
end
end Go.VL.Try
