/- Fragment: the laws: both joiners answer alike, whatever comes. -/
import Derived.Test.YtohccdodnpkpfaaFr6
set_option linter.unusedVariables false
set_option linter.unusedSimpArgs false
namespace Go.VL.Try
open Go.RowKit

/-- Both joiners in memory, at one state. -/
def Both (O : List AO) (lj lr N : Nat) (s : St) : Prop := ∃ oj or, PRep O lj s oj ∧ RRep O lr s or ∧ (∀ l, oj l ≠ 0 → or l = 0) ∧ Good N s
/-- What is no place of theirs stays. -/
def Free (O : List AO) (lj lr : Nat) (s : St) (l : Nat) : Prop := True

theorem PRep.lt {O : List AO} {lj : Nat} {s : St} {own : Nat → Nat} (h : PRep O lj s own) : ∀ l, own l ≠ 0 → l < O.length := let ⟨_, _, _, _, h⟩ := h; h.lt
theorem RRep.lt {O : List AO} {lj : Nat} {s : St} {own : Nat → Nat} (h : RRep O lj s own) : ∀ l, own l ≠ 0 → l < O.length := let ⟨_, _, _, h⟩ := h; h.lt
theorem Both.grow {O J : List AO} {lj lr N : Nat} {s : St} (h : Both O lj lr N s) : Both (O ++ J) lj lr N s := by
  obtain ⟨oj, or, h1, h2, h3, h4⟩ := h
  exact ⟨oj, or, h1.frame (by simp) fun l hl => List.getElem?_append_left (h1.lt l hl), h2.frame (by simp) fun l hl => List.getElem?_append_left (h2.lt l hl), h3, h4⟩

theorem ba_refl (b : ByteArray) : (b == b) = true := by
  have : (b.data == b.data) = true := by simp
  exact this

theorem start_both : Both [.map 0 [], .map 0 [], .cells [.lm 0, .lm 1], .cells [.sl [] .full, .sl [] .full]] 2 3 0 s0 := by
  refine ⟨fun l => if l = 2 then 1 else if l = 0 then 2 else if l = 1 then 3 else 0, fun l => if l = 3 then 1 else 0, ⟨0, 1, [], [], ?_⟩, ⟨.sl [] .full, .sl [] .full, [], ?_⟩, ?_, s0_good⟩
  · have h : PAt ([] ++ [.map 0 [], .map 0 [], .cells [.lm 0, .lm 1]]) 2 s0 (fun l => if l = 2 then 1 else if l = 0 then 2 else if l = 1 then 3 else 0) 0 1 [] [] := new_prep (O := [])
    exact h.frame (O' := [.map 0 [], .map 0 [], .cells [.lm 0, .lm 1], .cells [.sl [] .full, .sl [] .full]]) (by simp) fun l hl => by
      have := h.lt l hl
      match l, this with
      | 0, _ => rfl
      | 1, _ => rfl
      | 2, _ => rfl
  · refine ⟨rfl, .inl ⟨rfl, rfl⟩, .inl ⟨rfl, rfl⟩, rfl, ?_, rfl, by simp [locs1], by simp [locs1], ?_, ?_⟩
    · intro i hi; simp [s0] at hi
    · intro i hi; simp [s0] at hi
    · intro l hl
      by_cases e : l = 3
      · subst e; simp
      · simp only [if_neg e] at hl; exact absurd rfl hl
  · intro l hl
    simp only at hl ⊢
    by_cases e : l = 3
    · subst e; exact absurd rfl hl
    · rw [if_neg e]

section
variable {P : Program} (hm : P.follows .mixedOrders = true)
include hm
/-- A fragment is taken by the program's, with a cell at hand that stays. -/
theorem takeJ (hJ : JoinAt P 12) (h17 : FnAt P 17 pc17 [2] 1) (h11 : FnAt P 11 pc11 [4,5] 2) (h7 : FnAt P 7 pc7 [4,5,6] 2) {O : List AO} {G : List Nat} {lj lr N : Nat} {s : St} {oj or : Nat → Nat} {f : Frag} (hN : N ≤ 900) (hfb : f.bytes.size ≤ 100)
    (h1 : PRep O lj s oj) (h2 : RRep O lr s or) (h3 : ∀ l, oj l ≠ 0 → or l = 0) (hg : Good N s) {k : AV → List AO → List Nat → Prop}
    (hk : ∀ O' G' oj', PRep O' lj (s.step f).1 oj' → RRep O' lr s or → (∀ l, oj' l ≠ 0 → or l = 0) → Good (N + 1) (s.step f).1 → (∀ l, l < O.length → oj l = 0 → O'[l]? = O[l]? ∧ oj' l = 0) → O.length ≤ O'.length → k (ansAV (s.step f).2) O' G') : callC (PSem P) 7 [.ref lj 0, f.av] O G k := by
  refine callC.of (take7 hm hJ h17 h11 h7 hN hg h1 f hfb) ?_
  rintro r O1 G1 ⟨rfl, oj1, hp1, k1, k2, k3⟩
  refine hk O1 G1 oj1 hp1 (h2.frame k3 fun l hl => k1 l (h2.lt l hl) ?_) ?_ (step_good hg hfb) ?_ k3
  · apply Classical.byContradiction
    intro hn; exact hl (h3 l hn)
  · intro l hl
    rcases k2 l hl with h | h
    · exact h3 l h
    · apply Classical.byContradiction
      intro hn; have := h2.lt l hn; omega
  · intro l hl hz
    refine ⟨k1 l hl hz, ?_⟩
    apply Classical.byContradiction
    intro hn
    rcases k2 l hn with h | h
    · exact h hz
    · omega
theorem takeR (h13 : FnAt P 13 pc13 [2] 1) (h14 : FnAt P 14 pc14 [4] 2) (h15 : FnAt P 15 pc15 [4] 2) (h16 : FnAt P 16 pc16 [4] 2) (h8 : FnAt P 8 pc8 [4,5,6] 2) {O : List AO} {G : List Nat} {lj lr N : Nat} {s s' : St} {oj or : Nat → Nat} {f : Frag} (hN : N ≤ 900) (hfb : f.bytes.size ≤ 100)
    (h1 : PRep O lj s' oj) (h2 : RRep O lr s or) (h3 : ∀ l, oj l ≠ 0 → or l = 0) (hg : Good N s) (hs : (s.step f).1 = s') {k : AV → List AO → List Nat → Prop}
    (hk : ∀ O' G', Both O' lj lr (N + 1) s' → k (ansAV (s.step f).2) O' G') : callC (PSem P) 8 [.ref lr 0, f.av] O G k := by
  refine callC.of (take8 hm h13 h14 h15 h16 h8 hN hg h2 f hfb) ?_
  rintro r O1 G1 ⟨rfl, or1, hp1, k1, k2, k3⟩
  have hg1 := step_good hg hfb
  rw [hs] at hp1 hg1
  refine hk O1 G1 ⟨oj, or1, h1.frame k3 fun l hl => k1 l (h1.lt l hl) (h3 l hl), hp1, ?_, hg1⟩
  intro l hl
  apply Classical.byContradiction
  intro hn
  rcases k2 l hn with h | h
  · exact h (h3 l hl)
  · have := h1.lt l hl; omega

theorem law3 (hJ : JoinAt P 12) (h6 : FnAt P 6 pc6 [0] 0) (h9 : FnAt P 9 pc9 [2] 1) (h10 : FnAt P 10 pc10 [8,9] 4) (h17 : FnAt P 17 pc17 [2] 1) (h11 : FnAt P 11 pc11 [4,5] 2) (h7 : FnAt P 7 pc7 [4,5,6] 2) (h5 : FnAt P 5 pc5 [0] 0)
    (h13 : FnAt P 13 pc13 [2] 1) (h14 : FnAt P 14 pc14 [4] 2) (h15 : FnAt P 15 pc15 [4] 2) (h16 : FnAt P 16 pc16 [4] 2) (h8 : FnAt P 8 pc8 [4,5,6] 2) (h : FnAt P 3 pc3 [2] 1) (fs : List Frag) (t : Tail) : PCall P 3 [.sl (fs.map Frag.av) t] [] [] fun r _ _ => r = boo true := by
  refine FnAt.call hm h (Nat.le_refl _) ?_
  unfold pc3
  simp (maxSteps := 4000000) only [go_sem, ↓reduceIte, Nat.reduceAdd, Nat.reduceSub, Nat.reduceMul, Nat.reduceEqDiff, Nat.reduceLeDiff, Nat.reduceLT, Nat.reduceBEq, Nat.reduceBNe, Int.reduceToNat, Int.reduceLT, Int.reduceLE, Int.reduceNeg, Int.reduceEq, Int.reduceAdd, Int.reduceSub, Int.reduceMul, Int.reduceTDiv, Int.reduceTMod, reduceCtorEq]
  refine callC.of (PCall.of_pf (awake5 hm hJ h6 h9 h10 h17 h11 h7 h5)) ?_
  rintro r O' G' ⟨rfl, rfl, rfl⟩
  simp (maxSteps := 4000000) only [go_sem, ↓reduceIte, Nat.reduceAdd, Nat.reduceSub, Nat.reduceMul, Nat.reduceEqDiff, Nat.reduceLeDiff, Nat.reduceLT, Nat.reduceBEq, Nat.reduceBNe, Int.reduceToNat, Int.reduceLT, Int.reduceLE, Int.reduceNeg, Int.reduceEq, Int.reduceAdd, Int.reduceSub, Int.reduceMul, Int.reduceTDiv, Int.reduceTMod, reduceCtorEq]
  refine callC.of (new6 hm h6) ?_
  rintro r O' G' ⟨rfl, rfl⟩
  simp (maxSteps := 4000000) only [go_sem, ↓reduceIte, Nat.reduceAdd, Nat.reduceSub, Nat.reduceMul, Nat.reduceEqDiff, Nat.reduceLeDiff, Nat.reduceLT, Nat.reduceBEq, Nat.reduceBNe, Int.reduceToNat, Int.reduceLT, Int.reduceLE, Int.reduceNeg, Int.reduceEq, Int.reduceAdd, Int.reduceSub, Int.reduceMul, Int.reduceTDiv, Int.reduceTMod, reduceCtorEq]
  refine loopC.of (fun n T O' G' => ∃ (i : Nat) (s : St), T = [(0, .sl (fs.map Frag.av) t), (3, boo true), (4, .ref 2 0), (5, .ref 3 0), (6, i64 i)] ∧ Both O' 2 3 i s ∧ n + i = fs.length ∧ i ≤ 200) fs.length ⟨0, s0, rfl, start_both, rfl, by omega⟩ ?_
  rintro n T O' G' ⟨i, s, rfl, ⟨oj, or, hp, hr, hd, hg⟩, hi, h200⟩
  unfold pc3_1
  by_cases hlt : i < fs.length ∧ i < 200
  · obtain ⟨hl1, hl2⟩ := hlt
    have a1 : (i : Int) < (fs.length : Int) := by omega
    have a2 : (i : Int) < 200 := by omega
    have a3 : (0 : Int) ≤ (i : Int) := by omega
    have hw : IntKind.i64.wrap ((i : Int) + 1) = ((i + 1 : Nat) : Int) := by rw [wrap_in (by omega) (by omega)]; rfl
    have hy : (fs.map Frag.av).getD i .any = .agg [i64 fs[i].fr, i64 fs[i].num, i64 fs[i].part, i64 fs[i].parts, str fs[i].bytes] := getD_map _ _ _ hl1
    by_cases hb : fs[i].bytes.size ≤ 100
    · have a4 : ¬ ((100 : Int) < (fs[i].bytes.size : Int)) := by omega
      simp (maxSteps := 4000000) only [go_sem, ↓reduceIte, Nat.reduceAdd, Nat.reduceSub, Nat.reduceMul, Nat.reduceEqDiff, Nat.reduceLeDiff, Nat.reduceLT, Nat.reduceBEq, Nat.reduceBNe, Int.reduceToNat, Int.reduceLT, Int.reduceLE, Int.reduceNeg, Int.reduceEq, Int.reduceAdd, Int.reduceSub, Int.reduceMul, Int.reduceTDiv, Int.reduceTMod, reduceCtorEq, a1, a2, a3, hy, hl1, a4]
      refine takeJ hm hJ h17 h11 h7 (f := fs[i]) (by omega) hb hp hr hd hg ?_
      intro O1 G1 oj1 hp1 hr1 hd1 hg1 _ _
      simp (maxSteps := 4000000) only [go_sem, ↓reduceIte, Nat.reduceAdd, Nat.reduceSub, Nat.reduceMul, Nat.reduceEqDiff, Nat.reduceLeDiff, Nat.reduceLT, Nat.reduceBEq, Nat.reduceBNe, Int.reduceToNat, Int.reduceLT, Int.reduceLE, Int.reduceNeg, Int.reduceEq, Int.reduceAdd, Int.reduceSub, Int.reduceMul, Int.reduceTDiv, Int.reduceTMod, reduceCtorEq, a1, a2, a3, hy, hl1, ansAV]
      refine takeR hm h13 h14 h15 h16 h8 (f := fs[i]) (by omega) hb hp1 hr1 hd1 hg rfl ?_
      intro O2 G2 hB
      have hB0 := hB
      obtain ⟨oj2, or2, hp2, hr2, hd2, hg2⟩ := hB
      obtain ⟨lo, ld, Fs, Ps, hp2⟩ := hp2
      obtain ⟨X, D, Ys, hr2⟩ := hr2
      obtain ⟨gg, hop⟩ := hp2.opn
      have e1 := ba_refl (s.step fs[i]).2.1
      simp (maxSteps := 4000000) only [go_sem, ↓reduceIte, Nat.reduceAdd, Nat.reduceSub, Nat.reduceMul, Nat.reduceEqDiff, Nat.reduceLeDiff, Nat.reduceLT, Nat.reduceBEq, Nat.reduceBNe, Int.reduceToNat, Int.reduceLT, Int.reduceLE, Int.reduceNeg, Int.reduceEq, Int.reduceAdd, Int.reduceSub, Int.reduceMul, Int.reduceTDiv, Int.reduceTMod, reduceCtorEq, ansAV, e1]
      refine callQ.of (fun _ => open9 hm h9 hp2.root hop) ?_
      have hml : (pm (List.zipWith (fun (o : Opn) F => (o.key, AV.ref F 0)) (s.step fs[i]).1.opn Fs)).length = (s.step fs[i]).1.opn.length := by rw [pm_len]; simp [hp2.lenF]
      have hroot := hr2.root
      have fin : loopN (fun T' O' G' => ∃ m, m < n ∧ ∃ (i : Nat) (s : St), T' = [(0, .sl (fs.map Frag.av) t), (3, boo true), (4, .ref 2 0), (5, .ref 3 0), (6, i64 i)] ∧ Both O' 2 3 i s ∧ m + i = fs.length ∧ i ≤ 200)
        [(0, .sl (fs.map Frag.av) t), (3, boo true), (4, .ref 2 0), (5, .ref 3 0), (6, i64 ((i + 1 : Nat) : Int))] O2 G2 := loopN.self ⟨n - 1, by omega, i + 1, (s.step fs[i]).1, rfl, hB0, by omega, by omega⟩
      rcases hr2.rowX with ⟨rfl, hx⟩ | ⟨lX, gX, rfl, hX⟩
      · have hs0 : (s.step fs[i]).1.opn.length = 0 := by have := congrArg List.length hx; simpa [hr2.len] using this
        simp (maxSteps := 4000000) only [go_sem, ↓reduceIte, Nat.reduceAdd, Nat.reduceSub, Nat.reduceMul, Nat.reduceEqDiff, Nat.reduceLeDiff, Nat.reduceLT, Nat.reduceBEq, Nat.reduceBNe, Int.reduceToNat, Int.reduceLT, Int.reduceLE, Int.reduceNeg, Int.reduceEq, Int.reduceAdd, Int.reduceSub, Int.reduceMul, Int.reduceTDiv, Int.reduceTMod, reduceCtorEq, hml, hroot, hs0, hw]
        exact fin
      · have hzl : (List.zipWith Opn.hd (s.step fs[i]).1.opn Ys).length = (s.step fs[i]).1.opn.length := by simp [hr2.len]
        rw [hzl] at hroot
        simp (maxSteps := 4000000) only [go_sem, ↓reduceIte, Nat.reduceAdd, Nat.reduceSub, Nat.reduceMul, Nat.reduceEqDiff, Nat.reduceLeDiff, Nat.reduceLT, Nat.reduceBEq, Nat.reduceBNe, Int.reduceToNat, Int.reduceLT, Int.reduceLE, Int.reduceNeg, Int.reduceEq, Int.reduceAdd, Int.reduceSub, Int.reduceMul, Int.reduceTDiv, Int.reduceTMod, reduceCtorEq, hml, hroot, hX, hzl, hw]
        exact fin
    · have a4 : ((100 : Int) < (fs[i].bytes.size : Int)) := by omega
      simp (maxSteps := 4000000) only [go_sem, ↓reduceIte, Nat.reduceAdd, Nat.reduceSub, Nat.reduceMul, Nat.reduceEqDiff, Nat.reduceLeDiff, Nat.reduceLT, Nat.reduceBEq, Nat.reduceBNe, Int.reduceToNat, Int.reduceLT, Int.reduceLE, Int.reduceNeg, Int.reduceEq, Int.reduceAdd, Int.reduceSub, Int.reduceMul, Int.reduceTDiv, Int.reduceTMod, reduceCtorEq, a1, a2, a3, hy, hl1, a4]
      rfl
  · by_cases hl1 : i < fs.length
    · have a1 : (i : Int) < (fs.length : Int) := by omega
      have a2 : ¬ (i : Int) < 200 := by omega
      simp (maxSteps := 4000000) only [go_sem, ↓reduceIte, Nat.reduceAdd, Nat.reduceSub, Nat.reduceMul, Nat.reduceEqDiff, Nat.reduceLeDiff, Nat.reduceLT, Nat.reduceBEq, Nat.reduceBNe, Int.reduceToNat, Int.reduceLT, Int.reduceLE, Int.reduceNeg, Int.reduceEq, Int.reduceAdd, Int.reduceSub, Int.reduceMul, Int.reduceTDiv, Int.reduceTMod, reduceCtorEq, a1, a2]
      unfold pc3_2
      simp (maxSteps := 4000000) only [go_sem, ↓reduceIte, Nat.reduceAdd, Nat.reduceSub, Nat.reduceMul, Nat.reduceEqDiff, Nat.reduceLeDiff, Nat.reduceLT, Nat.reduceBEq, Nat.reduceBNe, Int.reduceToNat, Int.reduceLT, Int.reduceLE, Int.reduceNeg, Int.reduceEq, Int.reduceAdd, Int.reduceSub, Int.reduceMul, Int.reduceTDiv, Int.reduceTMod, reduceCtorEq]
      rfl
    · have a1 : ¬ (i : Int) < (fs.length : Int) := by omega
      simp (maxSteps := 4000000) only [go_sem, ↓reduceIte, Nat.reduceAdd, Nat.reduceSub, Nat.reduceMul, Nat.reduceEqDiff, Nat.reduceLeDiff, Nat.reduceLT, Nat.reduceBEq, Nat.reduceBNe, Int.reduceToNat, Int.reduceLT, Int.reduceLE, Int.reduceNeg, Int.reduceEq, Int.reduceAdd, Int.reduceSub, Int.reduceMul, Int.reduceTDiv, Int.reduceTMod, reduceCtorEq, a1]
      unfold pc3_2
      simp (maxSteps := 4000000) only [go_sem, ↓reduceIte, Nat.reduceAdd, Nat.reduceSub, Nat.reduceMul, Nat.reduceEqDiff, Nat.reduceLeDiff, Nat.reduceLT, Nat.reduceBEq, Nat.reduceBNe, Int.reduceToNat, Int.reduceLT, Int.reduceLE, Int.reduceNeg, Int.reduceEq, Int.reduceAdd, Int.reduceSub, Int.reduceMul, Int.reduceTDiv, Int.reduceTMod, reduceCtorEq]
      rfl

/-- A fragment as small numbers. -/
structure Bit where
  fr : Int
  num : Int
  part : Int
  parts : Int
  parts0 : 0 ≤ parts
  parts1 : parts ≤ 255
abbrev u8 (n : Int) : AV := .v (.int .u8 n)
def Bit.av (b : Bit) : AV := .agg [u8 b.fr, u8 b.num, u8 b.part, u8 b.parts]

theorem law4 (hJ : JoinAt P 12) (h6 : FnAt P 6 pc6 [0] 0) (h9 : FnAt P 9 pc9 [2] 1) (h10 : FnAt P 10 pc10 [8,9] 4) (h17 : FnAt P 17 pc17 [2] 1) (h11 : FnAt P 11 pc11 [4,5] 2) (h7 : FnAt P 7 pc7 [4,5,6] 2) (h5 : FnAt P 5 pc5 [0] 0)
    (h13 : FnAt P 13 pc13 [2] 1) (h14 : FnAt P 14 pc14 [4] 2) (h15 : FnAt P 15 pc15 [4] 2) (h16 : FnAt P 16 pc16 [4] 2) (h8 : FnAt P 8 pc8 [4,5,6] 2) (h : FnAt P 4 pc4 [4] 2) (fs : List Bit) (t : Tail) (wide : Bool) : PCall P 4 [.sl (fs.map Bit.av) t, boo wide] [] [] fun r _ _ => r = boo true := by
  refine FnAt.call hm h (Nat.le_refl _) ?_
  unfold pc4
  simp (maxSteps := 4000000) only [go_sem, ↓reduceIte, Nat.reduceAdd, Nat.reduceSub, Nat.reduceMul, Nat.reduceEqDiff, Nat.reduceLeDiff, Nat.reduceLT, Nat.reduceBEq, Nat.reduceBNe, Int.reduceToNat, Int.reduceLT, Int.reduceLE, Int.reduceNeg, Int.reduceEq, Int.reduceAdd, Int.reduceSub, Int.reduceMul, Int.reduceTDiv, Int.reduceTMod, reduceCtorEq]
  refine callC.of (PCall.of_pf (awake5 hm hJ h6 h9 h10 h17 h11 h7 h5)) ?_
  rintro r O' G' ⟨rfl, rfl, rfl⟩
  simp (maxSteps := 4000000) only [go_sem, ↓reduceIte, Nat.reduceAdd, Nat.reduceSub, Nat.reduceMul, Nat.reduceEqDiff, Nat.reduceLeDiff, Nat.reduceLT, Nat.reduceBEq, Nat.reduceBNe, Int.reduceToNat, Int.reduceLT, Int.reduceLE, Int.reduceNeg, Int.reduceEq, Int.reduceAdd, Int.reduceSub, Int.reduceMul, Int.reduceTDiv, Int.reduceTMod, reduceCtorEq]
  refine callC.of (new6 hm h6) ?_
  rintro r O' G' ⟨rfl, rfl⟩
  simp (maxSteps := 4000000) only [go_sem, ↓reduceIte, Nat.reduceAdd, Nat.reduceSub, Nat.reduceMul, Nat.reduceEqDiff, Nat.reduceLeDiff, Nat.reduceLT, Nat.reduceBEq, Nat.reduceBNe, Int.reduceToNat, Int.reduceLT, Int.reduceLE, Int.reduceNeg, Int.reduceEq, Int.reduceAdd, Int.reduceSub, Int.reduceMul, Int.reduceTDiv, Int.reduceTMod, reduceCtorEq]
  refine loopC.of (fun n T O' G' => ∃ (i : Nat) (s : St), T = [(0, .sl (fs.map Bit.av) t), (1, boo wide), (5, boo true), (6, .ref 2 0), (7, .ref 3 0), (8, i64 i)] ∧ Both O' 2 3 i s ∧ n + i = fs.length ∧ i ≤ 300) fs.length ⟨0, s0, rfl, start_both, rfl, by omega⟩ ?_
  rintro n T O' G' ⟨i, s, rfl, hB, hi, h300⟩
  unfold pc4_1
  by_cases hlt : i < fs.length ∧ i < 300
  · obtain ⟨hl1, hl2⟩ := hlt
    have a1 : (i : Int) < (fs.length : Int) := by omega
    have a2 : (i : Int) < 300 := by omega
    have a3 : (0 : Int) ≤ (i : Int) := by omega
    have hw : IntKind.i64.wrap ((i : Int) + 1) = ((i + 1 : Nat) : Int) := by rw [wrap_in (by omega) (by omega)]; rfl
    have hy : (fs.map Bit.av).getD i .any = .agg [u8 fs[i].fr, u8 fs[i].num, u8 fs[i].part, u8 fs[i].parts] := getD_map _ _ _ hl1
    have hp0 := fs[i].parts0
    have hp1 := fs[i].parts1
    have hwp : IntKind.i64.wrap fs[i].parts = fs[i].parts := wrap_in (by omega) (by omega)
    have hn0 : (IntKind.i64.wrap (1 + fs[i].parts.tmod 3) = 0) = False := by
      rw [Int.tmod_eq_emod_of_nonneg hp0, wrap_in (by omega) (by omega)]
      simp; omega
    have hi6 : ((i : Int).tmod 6) = ((i % 6 : Nat) : Int) := by rw [Int.tmod_eq_emod_of_nonneg a3]; omega
    have c1 : (0 : Int) ≤ ((i % 6 : Nat) : Int) := by omega
    have c2 : IntKind.i64.wrap (((i % 6 : Nat) : Int) + 1) = ((i % 6 + 1 : Nat) : Int) := by rw [wrap_in (by omega) (by omega)]; rfl
    have c3 : ((i % 6 : Nat) : Int) ≤ ((i % 6 + 1 : Nat) : Int) := by omega
    have c4 : ((i % 6 + 1 : Nat) : Int) ≤ 6 := by omega
    -- what follows the choice of k
    have key : ∀ k : Int, (k = 0) = False → ∀ T, get T 0 = .sl (fs.map Bit.av) t → get T 1 = boo wide → get T 5 = boo true → get T 6 = .ref 2 0 → get T 7 = .ref 3 0 → get T 8 = i64 i → get T 9 = i64 k → ∀ Q : Post,
        (∀ O2 G2 s' b, Both O2 2 3 (i + 1) s' → Q .normal [(0, .sl (fs.map Bit.av) t), (1, boo wide), (5, boo true), (6, .ref 2 0), (7, .ref 3 0), (8, i64 i), (113, b)] O2 G2) → pe (PSem P) pc4_2 Q T O' G' := by
      intro k hk T t0 t1 t5 t6 t7 t8 t9 Q hQ
      unfold pc4_2
      have z6 : ((#[97, 98, 99, 100, 101, 102] : Array UInt8).size : Int) = 6 := rfl
      simp (maxSteps := 4000000) only [go_sem, ↓reduceIte, Nat.reduceAdd, Nat.reduceSub, Nat.reduceMul, Nat.reduceEqDiff, Nat.reduceLeDiff, Nat.reduceLT, Nat.reduceBEq, Nat.reduceBNe, Int.reduceToNat, Int.reduceLT, Int.reduceLE, Int.reduceNeg, Int.reduceEq, Int.reduceAdd, Int.reduceSub, Int.reduceMul, Int.reduceTDiv, Int.reduceTMod, reduceCtorEq, t0, t1, t5, t6, t7, t8, t9, a1, a3, hy, hl1, hk, hn0, hwp, hi6, c1, c2, c3, c4, z6]
      let f : Frag := ⟨IntKind.i64.wrap (1 + (IntKind.i64.wrap fs[i].fr).tmod 2), (IntKind.i64.wrap fs[i].num).tmod k, (IntKind.i64.wrap fs[i].part).tmod (IntKind.i64.wrap (1 + fs[i].parts.tmod 3)), IntKind.i64.wrap (1 + fs[i].parts.tmod 3), (⟨#[97, 98, 99, 100, 101, 102]⟩ : ByteArray).extract (i % 6) (i % 6 + 1)⟩
      have hb : f.bytes.size ≤ 100 := by
        show ByteArray.size _ ≤ 100
        rw [ByteArray.size_extract]
        omega
      obtain ⟨oj, or, hp, hr, hd, hg⟩ := (hB.grow (J := [AO.cells [i64 f.fr, i64 f.num, i64 f.part, i64 f.parts, str f.bytes]]))
      obtain ⟨oj', or', hp', hr', hd', hg'⟩ := hB
      refine takeJ hm hJ h17 h11 h7 (f := f) (by omega) hb (hp'.frame (by simp) fun l hl => List.getElem?_append_left (hp'.lt l hl)) (hr'.frame (by simp) fun l hl => List.getElem?_append_left (hr'.lt l hl)) hd' hg' ?_
      intro O1 G1 oj1 hp1 hr1 hd1 hg1 hkeep hlen1
      have hz : oj' O'.length = 0 := by
        apply Classical.byContradiction
        intro hn; have := hp'.lt _ hn; omega
      have hcell := (hkeep O'.length (by simp) hz).1
      rw [app_get0] at hcell
      replace hcell : O1[O'.length]? = some (.cells [i64 f.fr, i64 f.num, i64 f.part, i64 f.parts, str f.bytes]) := hcell
      simp (maxSteps := 4000000) only [go_sem, ↓reduceIte, Nat.reduceAdd, Nat.reduceSub, Nat.reduceMul, Nat.reduceEqDiff, Nat.reduceLeDiff, Nat.reduceLT, Nat.reduceBEq, Nat.reduceBNe, Int.reduceToNat, Int.reduceLT, Int.reduceLE, Int.reduceNeg, Int.reduceEq, Int.reduceAdd, Int.reduceSub, Int.reduceMul, Int.reduceTDiv, Int.reduceTMod, reduceCtorEq, ansAV, hcell]
      refine takeR hm h13 h14 h15 h16 h8 (f := f) (by omega) hb hp1 hr1 hd1 hg' rfl ?_
      intro O2 G2 hB
      have hB0 := hB
      obtain ⟨oj2, or2, hp2, hr2, hd2, hg2⟩ := hB
      obtain ⟨lo, ld, Fs, Ps, hp2⟩ := hp2
      obtain ⟨X, D, Ys, hr2⟩ := hr2
      obtain ⟨gg, hop⟩ := hp2.opn
      have e1 := ba_refl (s.step f).2.1
      simp (maxSteps := 4000000) only [go_sem, ↓reduceIte, Nat.reduceAdd, Nat.reduceSub, Nat.reduceMul, Nat.reduceEqDiff, Nat.reduceLeDiff, Nat.reduceLT, Nat.reduceBEq, Nat.reduceBNe, Int.reduceToNat, Int.reduceLT, Int.reduceLE, Int.reduceNeg, Int.reduceEq, Int.reduceAdd, Int.reduceSub, Int.reduceMul, Int.reduceTDiv, Int.reduceTMod, reduceCtorEq, ansAV, e1]
      refine callQ.of (fun _ => open9 hm h9 hp2.root hop) ?_
      have hml : (pm (List.zipWith (fun (o : Opn) F => (o.key, AV.ref F 0)) (s.step f).1.opn Fs)).length = (s.step f).1.opn.length := by rw [pm_len]; simp [hp2.lenF]
      have hroot := hr2.root
      rcases hr2.rowX with ⟨rfl, hx⟩ | ⟨lX, gX, rfl, hX⟩
      · have hs0 : (s.step f).1.opn.length = 0 := by have := congrArg List.length hx; simpa [hr2.len] using this
        simp (maxSteps := 4000000) only [go_sem, ↓reduceIte, Nat.reduceAdd, Nat.reduceSub, Nat.reduceMul, Nat.reduceEqDiff, Nat.reduceLeDiff, Nat.reduceLT, Nat.reduceBEq, Nat.reduceBNe, Int.reduceToNat, Int.reduceLT, Int.reduceLE, Int.reduceNeg, Int.reduceEq, Int.reduceAdd, Int.reduceSub, Int.reduceMul, Int.reduceTDiv, Int.reduceTMod, reduceCtorEq, hml, hroot, hs0]
        exact hQ _ _ _ _ hB0
      · have hzl : (List.zipWith Opn.hd (s.step f).1.opn Ys).length = (s.step f).1.opn.length := by simp [hr2.len]
        rw [hzl] at hroot
        simp (maxSteps := 4000000) only [go_sem, ↓reduceIte, Nat.reduceAdd, Nat.reduceSub, Nat.reduceMul, Nat.reduceEqDiff, Nat.reduceLeDiff, Nat.reduceLT, Nat.reduceBEq, Nat.reduceBNe, Int.reduceToNat, Int.reduceLT, Int.reduceLE, Int.reduceNeg, Int.reduceEq, Int.reduceAdd, Int.reduceSub, Int.reduceMul, Int.reduceTDiv, Int.reduceTMod, reduceCtorEq, hml, hroot, hX, hzl]
        exact hQ _ _ _ _ hB0
    have fin : ∀ O2 G2 s', Both O2 2 3 (i + 1) s' → loopN (fun T' O' G' => ∃ m, m < n ∧ ∃ (i : Nat) (s : St), T' = [(0, .sl (fs.map Bit.av) t), (1, boo wide), (5, boo true), (6, .ref 2 0), (7, .ref 3 0), (8, i64 i)] ∧ Both O' 2 3 i s ∧ m + i = fs.length ∧ i ≤ 300)
        [(0, .sl (fs.map Bit.av) t), (1, boo wide), (5, boo true), (6, .ref 2 0), (7, .ref 3 0), (8, i64 ((i + 1 : Nat) : Int))] O2 G2 := fun O2 G2 s' hB => loopN.self ⟨n - 1, by omega, i + 1, s', rfl, hB, by omega, by omega⟩
    cases wide with
    | true =>
      simp (maxSteps := 4000000) only [go_sem, ↓reduceIte, Nat.reduceAdd, Nat.reduceSub, Nat.reduceMul, Nat.reduceEqDiff, Nat.reduceLeDiff, Nat.reduceLT, Nat.reduceBEq, Nat.reduceBNe, Int.reduceToNat, Int.reduceLT, Int.reduceLE, Int.reduceNeg, Int.reduceEq, Int.reduceAdd, Int.reduceSub, Int.reduceMul, Int.reduceTDiv, Int.reduceTMod, reduceCtorEq, a1, a2]
      refine key 60 (by simp) _ rfl rfl rfl rfl rfl rfl rfl _ ?_
      intro O2 G2 s' b hB
      simp (maxSteps := 4000000) only [go_sem, ↓reduceIte, Nat.reduceAdd, Nat.reduceSub, Nat.reduceMul, Nat.reduceEqDiff, Nat.reduceLeDiff, Nat.reduceLT, Nat.reduceBEq, Nat.reduceBNe, Int.reduceToNat, Int.reduceLT, Int.reduceLE, Int.reduceNeg, Int.reduceEq, Int.reduceAdd, Int.reduceSub, Int.reduceMul, Int.reduceTDiv, Int.reduceTMod, reduceCtorEq]
      unfold pc4_3
      simp (maxSteps := 4000000) only [go_sem, ↓reduceIte, Nat.reduceAdd, Nat.reduceSub, Nat.reduceMul, Nat.reduceEqDiff, Nat.reduceLeDiff, Nat.reduceLT, Nat.reduceBEq, Nat.reduceBNe, Int.reduceToNat, Int.reduceLT, Int.reduceLE, Int.reduceNeg, Int.reduceEq, Int.reduceAdd, Int.reduceSub, Int.reduceMul, Int.reduceTDiv, Int.reduceTMod, reduceCtorEq, hw]
      exact fin _ _ _ hB
    | false =>
      simp (maxSteps := 4000000) only [go_sem, ↓reduceIte, Nat.reduceAdd, Nat.reduceSub, Nat.reduceMul, Nat.reduceEqDiff, Nat.reduceLeDiff, Nat.reduceLT, Nat.reduceBEq, Nat.reduceBNe, Int.reduceToNat, Int.reduceLT, Int.reduceLE, Int.reduceNeg, Int.reduceEq, Int.reduceAdd, Int.reduceSub, Int.reduceMul, Int.reduceTDiv, Int.reduceTMod, reduceCtorEq, a1, a2]
      refine key 3 (by simp) _ rfl rfl rfl rfl rfl rfl rfl _ ?_
      intro O2 G2 s' b hB
      simp (maxSteps := 4000000) only [go_sem, ↓reduceIte, Nat.reduceAdd, Nat.reduceSub, Nat.reduceMul, Nat.reduceEqDiff, Nat.reduceLeDiff, Nat.reduceLT, Nat.reduceBEq, Nat.reduceBNe, Int.reduceToNat, Int.reduceLT, Int.reduceLE, Int.reduceNeg, Int.reduceEq, Int.reduceAdd, Int.reduceSub, Int.reduceMul, Int.reduceTDiv, Int.reduceTMod, reduceCtorEq]
      unfold pc4_3
      simp (maxSteps := 4000000) only [go_sem, ↓reduceIte, Nat.reduceAdd, Nat.reduceSub, Nat.reduceMul, Nat.reduceEqDiff, Nat.reduceLeDiff, Nat.reduceLT, Nat.reduceBEq, Nat.reduceBNe, Int.reduceToNat, Int.reduceLT, Int.reduceLE, Int.reduceNeg, Int.reduceEq, Int.reduceAdd, Int.reduceSub, Int.reduceMul, Int.reduceTDiv, Int.reduceTMod, reduceCtorEq, hw]
      exact fin _ _ _ hB
  · by_cases hl1 : i < fs.length
    · have a1 : (i : Int) < (fs.length : Int) := by omega
      have a2 : ¬ (i : Int) < 300 := by omega
      simp (maxSteps := 4000000) only [go_sem, ↓reduceIte, Nat.reduceAdd, Nat.reduceSub, Nat.reduceMul, Nat.reduceEqDiff, Nat.reduceLeDiff, Nat.reduceLT, Nat.reduceBEq, Nat.reduceBNe, Int.reduceToNat, Int.reduceLT, Int.reduceLE, Int.reduceNeg, Int.reduceEq, Int.reduceAdd, Int.reduceSub, Int.reduceMul, Int.reduceTDiv, Int.reduceTMod, reduceCtorEq, a1, a2]
      unfold pc4_4
      simp (maxSteps := 4000000) only [go_sem, ↓reduceIte, Nat.reduceAdd, Nat.reduceSub, Nat.reduceMul, Nat.reduceEqDiff, Nat.reduceLeDiff, Nat.reduceLT, Nat.reduceBEq, Nat.reduceBNe, Int.reduceToNat, Int.reduceLT, Int.reduceLE, Int.reduceNeg, Int.reduceEq, Int.reduceAdd, Int.reduceSub, Int.reduceMul, Int.reduceTDiv, Int.reduceTMod, reduceCtorEq]
      rfl
    · have a1 : ¬ (i : Int) < (fs.length : Int) := by omega
      simp (maxSteps := 4000000) only [go_sem, ↓reduceIte, Nat.reduceAdd, Nat.reduceSub, Nat.reduceMul, Nat.reduceEqDiff, Nat.reduceLeDiff, Nat.reduceLT, Nat.reduceBEq, Nat.reduceBNe, Int.reduceToNat, Int.reduceLT, Int.reduceLE, Int.reduceNeg, Int.reduceEq, Int.reduceAdd, Int.reduceSub, Int.reduceMul, Int.reduceTDiv, Int.reduceTMod, reduceCtorEq, a1]
      unfold pc4_4
      simp (maxSteps := 4000000) only [go_sem, ↓reduceIte, Nat.reduceAdd, Nat.reduceSub, Nat.reduceMul, Nat.reduceEqDiff, Nat.reduceLeDiff, Nat.reduceLT, Nat.reduceBEq, Nat.reduceBNe, Int.reduceToNat, Int.reduceLT, Int.reduceLE, Int.reduceNeg, Int.reduceEq, Int.reduceAdd, Int.reduceSub, Int.reduceMul, Int.reduceTDiv, Int.reduceTMod, reduceCtorEq]
      rfl
end
end Go.VL.Try
