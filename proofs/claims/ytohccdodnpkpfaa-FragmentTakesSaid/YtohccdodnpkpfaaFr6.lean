/- Fragment: what any right program answers. -/
import Derived.Test.YtohccdodnpkpfaaFr5
set_option linter.unusedVariables false
set_option linter.unusedSimpArgs false
namespace Go.VL.Try
open Go.RowKit

def fa : Frag := ⟨1, 7, 0, 3, ⟨#[97, 98]⟩⟩
def fb : Frag := ⟨1, 7, 1, 3, ⟨#[99, 100]⟩⟩
def fc : Frag := ⟨1, 7, 2, 3, ⟨#[101]⟩⟩
/-- A joiner without frames. -/
def s0 : St := ⟨[], []⟩
theorem s0_good : Good 0 s0 := ⟨by simp [s0], by simp [s0], by simp [s0], List.Pairwise.nil⟩
def s1 : St := ⟨[⟨1, 7, 3, [fc]⟩], []⟩
def s2 : St := ⟨[⟨1, 7, 3, [fa, fc]⟩], []⟩
def s3 : St := ⟨[], [(1, 7)]⟩
theorem st1 : s0.step fc = (s1, no 0) := by rfl
theorem st2 : s1.step fa = (s2, no 0) := by rfl
theorem st3 : s2.step fa = (s2, no 210) := by rfl
theorem st4 : s2.step fb = (s3, (⟨#[97, 98, 99, 100, 101]⟩, true, 0)) := by rfl

theorem new_prep {O : List AO} : PAt (O ++ [.map 0 [], .map 0 [], .cells [.lm O.length, .lm (O.length + 1)]]) (O.length + 2) s0 (fun l => if l = O.length + 2 then 1 else if l = O.length then 2 else if l = O.length + 1 then 3 else 0) O.length (O.length + 1) [] [] := by
  refine ⟨by rw [app_getk]; rfl, ⟨0, by rw [app_get0]; rfl⟩, ⟨0, by rw [app_getk]; rfl⟩, rfl, rfl, ?_, by simp, by simp, by simp, ?_, ?_, ?_⟩
  · intro i hi; simp [s0] at hi
  · intro i hi; simp [s0] at hi
  · intro i hi; simp [s0] at hi
  · intro l hl
    (repeat' split at hl) <;> simp <;> omega

section
variable {P : Program} (hm : P.follows .mixedOrders = true)
include hm
theorem cut10 (h : FnAt P 10 pc10 [8,9] 4) {O : List AO} {G : List Nat} : PCall P 10 [i64 1, i64 7, str ⟨#[97, 98, 99, 100, 101]⟩, i64 2] O G fun r O' G' => ∃ l g, r = .tup [.lsl l g 0 3, i64 0] ∧ O' = O ++ [.arr 5 g [fa.av, fb.av, fc.av]] ∧ l = O.length := by
  refine FnAt.call hm h (Nat.le_refl _) ?_
  unfold pc10
  have e0 : ((⟨#[97, 98, 99, 100, 101]⟩ : ByteArray) == ⟨#[]⟩) = false := by decide
  have z0 : ((#[97, 98, 99, 100, 101] : Array UInt8).size : Int) = 5 := rfl
  have w0 : IntKind.i64.wrap ((IntKind.i64.wrap (5 - 1)).tdiv 2) = 2 := by decide
  simp (maxSteps := 4000000) only [go_sem, ↓reduceIte, Nat.reduceAdd, Nat.reduceSub, Nat.reduceMul, Nat.reduceEqDiff, Nat.reduceLeDiff, Nat.reduceLT, Nat.reduceBEq, Nat.reduceBNe, Int.reduceToNat, Int.reduceLT, Int.reduceLE, Int.reduceNeg, Int.reduceEq, Int.reduceAdd, Int.reduceSub, Int.reduceMul, Int.reduceTDiv, Int.reduceTMod, reduceCtorEq, e0, z0, w0]
  refine loopC.unroll 4 (rounds_succ' ?_)
  have x0 : (⟨#[97, 98, 99, 100, 101]⟩ : ByteArray).extract 0 2 = ⟨#[97, 98]⟩ := by decide
  have y0 : (⟨#[97, 98, 99, 100, 101]⟩ : ByteArray).extract 2 5 = ⟨#[99, 100, 101]⟩ := by decide
  unfold pc10_1
  simp (maxSteps := 4000000) only [go_sem, ↓reduceIte, Nat.reduceAdd, Nat.reduceSub, Nat.reduceMul, Nat.reduceEqDiff, Nat.reduceLeDiff, Nat.reduceLT, Nat.reduceBEq, Nat.reduceBNe, Int.reduceToNat, Int.reduceLT, Int.reduceLE, Int.reduceNeg, Int.reduceEq, Int.reduceAdd, Int.reduceSub, Int.reduceMul, Int.reduceTDiv, Int.reduceTMod, reduceCtorEq, e0, z0, x0, y0]
  have e1 : ((⟨#[99, 100, 101]⟩ : ByteArray) == ⟨#[]⟩) = false := by decide
  have z1 : ((#[99, 100, 101] : Array UInt8).size : Int) = 3 := rfl
  have x1 : (⟨#[99, 100, 101]⟩ : ByteArray).extract 0 2 = ⟨#[99, 100]⟩ := by decide
  have y1 : (⟨#[99, 100, 101]⟩ : ByteArray).extract 2 3 = ⟨#[101]⟩ := by decide
  refine loopN.self (rounds_succ' ?_)
  simp (maxSteps := 4000000) only [go_sem, ↓reduceIte, Nat.reduceAdd, Nat.reduceSub, Nat.reduceMul, Nat.reduceEqDiff, Nat.reduceLeDiff, Nat.reduceLT, Nat.reduceBEq, Nat.reduceBNe, Int.reduceToNat, Int.reduceLT, Int.reduceLE, Int.reduceNeg, Int.reduceEq, Int.reduceAdd, Int.reduceSub, Int.reduceMul, Int.reduceTDiv, Int.reduceTMod, reduceCtorEq, e1, z1, x1, y1]
  have e2 : ((⟨#[101]⟩ : ByteArray) == ⟨#[]⟩) = false := by decide
  have z2 : ((#[101] : Array UInt8).size : Int) = 1 := rfl
  have x2 : (⟨#[101]⟩ : ByteArray).extract 0 1 = ⟨#[101]⟩ := by decide
  have y2 : (⟨#[101]⟩ : ByteArray).extract 1 1 = ⟨#[]⟩ := by decide
  refine loopN.self (rounds_succ' ?_)
  simp (maxSteps := 4000000) only [go_sem, ↓reduceIte, Nat.reduceAdd, Nat.reduceSub, Nat.reduceMul, Nat.reduceEqDiff, Nat.reduceLeDiff, Nat.reduceLT, Nat.reduceBEq, Nat.reduceBNe, Int.reduceToNat, Int.reduceLT, Int.reduceLE, Int.reduceNeg, Int.reduceEq, Int.reduceAdd, Int.reduceSub, Int.reduceMul, Int.reduceTDiv, Int.reduceTMod, reduceCtorEq, e2, z2, x2, y2]
  refine loopN.self (rounds_succ' ?_)
  have e3 : ((⟨#[]⟩ : ByteArray) == ⟨#[]⟩) = true := by decide
  simp (maxSteps := 4000000) only [go_sem, ↓reduceIte, Nat.reduceAdd, Nat.reduceSub, Nat.reduceMul, Nat.reduceEqDiff, Nat.reduceLeDiff, Nat.reduceLT, Nat.reduceBEq, Nat.reduceBNe, Int.reduceToNat, Int.reduceLT, Int.reduceLE, Int.reduceNeg, Int.reduceEq, Int.reduceAdd, Int.reduceSub, Int.reduceMul, Int.reduceTDiv, Int.reduceTMod, reduceCtorEq, e3]
  unfold pc10_2
  simp (maxSteps := 4000000) only [go_sem, ↓reduceIte, Nat.reduceAdd, Nat.reduceSub, Nat.reduceMul, Nat.reduceEqDiff, Nat.reduceLeDiff, Nat.reduceLT, Nat.reduceBEq, Nat.reduceBNe, Int.reduceToNat, Int.reduceLT, Int.reduceLE, Int.reduceNeg, Int.reduceEq, Int.reduceAdd, Int.reduceSub, Int.reduceMul, Int.reduceTDiv, Int.reduceTMod, reduceCtorEq]
  refine loopC.unroll 4 (rounds_succ' ?_)
  unfold pc10_3
  simp (maxSteps := 4000000) only [go_sem, ↓reduceIte, Nat.reduceAdd, Nat.reduceSub, Nat.reduceMul, Nat.reduceEqDiff, Nat.reduceLeDiff, Nat.reduceLT, Nat.reduceBEq, Nat.reduceBNe, Int.reduceToNat, Int.reduceLT, Int.reduceLE, Int.reduceNeg, Int.reduceEq, Int.reduceAdd, Int.reduceSub, Int.reduceMul, Int.reduceTDiv, Int.reduceTMod, reduceCtorEq]
  refine loopN.self (rounds_succ' ?_)
  simp (maxSteps := 4000000) only [go_sem, ↓reduceIte, Nat.reduceAdd, Nat.reduceSub, Nat.reduceMul, Nat.reduceEqDiff, Nat.reduceLeDiff, Nat.reduceLT, Nat.reduceBEq, Nat.reduceBNe, Int.reduceToNat, Int.reduceLT, Int.reduceLE, Int.reduceNeg, Int.reduceEq, Int.reduceAdd, Int.reduceSub, Int.reduceMul, Int.reduceTDiv, Int.reduceTMod, reduceCtorEq]
  refine loopN.self (rounds_succ' ?_)
  simp (maxSteps := 4000000) only [go_sem, ↓reduceIte, Nat.reduceAdd, Nat.reduceSub, Nat.reduceMul, Nat.reduceEqDiff, Nat.reduceLeDiff, Nat.reduceLT, Nat.reduceBEq, Nat.reduceBNe, Int.reduceToNat, Int.reduceLT, Int.reduceLE, Int.reduceNeg, Int.reduceEq, Int.reduceAdd, Int.reduceSub, Int.reduceMul, Int.reduceTDiv, Int.reduceTMod, reduceCtorEq]
  refine loopN.self (rounds_succ' ?_)
  simp (maxSteps := 4000000) only [go_sem, ↓reduceIte, Nat.reduceAdd, Nat.reduceSub, Nat.reduceMul, Nat.reduceEqDiff, Nat.reduceLeDiff, Nat.reduceLT, Nat.reduceBEq, Nat.reduceBNe, Int.reduceToNat, Int.reduceLT, Int.reduceLE, Int.reduceNeg, Int.reduceEq, Int.reduceAdd, Int.reduceSub, Int.reduceMul, Int.reduceTDiv, Int.reduceTMod, reduceCtorEq]
  unfold pc10_4
  simp (maxSteps := 4000000) only [go_sem, ↓reduceIte, Nat.reduceAdd, Nat.reduceSub, Nat.reduceMul, Nat.reduceEqDiff, Nat.reduceLeDiff, Nat.reduceLT, Nat.reduceBEq, Nat.reduceBNe, Int.reduceToNat, Int.reduceLT, Int.reduceLE, Int.reduceNeg, Int.reduceEq, Int.reduceAdd, Int.reduceSub, Int.reduceMul, Int.reduceTDiv, Int.reduceTMod, reduceCtorEq]
  exact ⟨O.length, 3, rfl, rfl, rfl⟩

theorem tk7 (hJ : JoinAt P 12) (h17 : FnAt P 17 pc17 [2] 1) (h11 : FnAt P 11 pc11 [4,5] 2) (h7 : FnAt P 7 pc7 [4,5,6] 2) {O : List AO} {G : List Nat} {lj lx N : Nat} {s s' : St} {own : Nat → Nat} {a : Ans} {f : Frag} (hN : N ≤ 900) (hp : PRep O lj s own) (h0 : own lx = 0) (hl : lx < O.length) (hg : Good N s) (hfb : f.bytes.size ≤ 100)
    (hst : s.step f = (s', a)) {k : AV → List AO → List Nat → Prop} (hk : ∀ O' G' own', PRep O' lj s' own' → own' lx = 0 → O'[lx]? = O[lx]? → lx < O'.length → Good (N + 1) s' → k (ansAV a) O' G') : callC (PSem P) 7 [.ref lj 0, f.av] O G k := by
  refine callC.of (take7 hm hJ h17 h11 h7 hN hg hp f hfb) ?_
  rintro r O1 G1 ⟨rfl, own1, hp1, k1, k2, k3⟩
  have g1 := step_good hg hfb
  rw [hst] at hp1 g1 ⊢
  refine hk O1 G1 own1 hp1 ?_ (k1 lx hl h0) (by omega) g1
  apply Classical.byContradiction
  intro hn
  rcases k2 lx hn with h | h
  · exact h h0
  · omega

theorem awake5 (hJ : JoinAt P 12) (h6 : FnAt P 6 pc6 [0] 0) (h9 : FnAt P 9 pc9 [2] 1) (h10 : FnAt P 10 pc10 [8,9] 4) (h17 : FnAt P 17 pc17 [2] 1) (h11 : FnAt P 11 pc11 [4,5] 2) (h7 : FnAt P 7 pc7 [4,5,6] 2) (h : FnAt P 5 pc5 [0] 0) : PF P 5 [] (boo true) := by
  refine PF.of_PCall rfl rfl (FnAt.call hm h (Nat.le_refl _) ?_)
  unfold pc5
  simp (maxSteps := 4000000) only [go_sem, ↓reduceIte, Nat.reduceAdd, Nat.reduceSub, Nat.reduceMul, Nat.reduceEqDiff, Nat.reduceLeDiff, Nat.reduceLT, Nat.reduceBEq, Nat.reduceBNe, Int.reduceToNat, Int.reduceLT, Int.reduceLE, Int.reduceNeg, Int.reduceEq, Int.reduceAdd, Int.reduceSub, Int.reduceMul, Int.reduceTDiv, Int.reduceTMod, reduceCtorEq]
  refine callC.of (cut10 hm h10) ?_
  rintro r O' G' ⟨l, g, rfl, rfl, rfl⟩
  simp (maxSteps := 4000000) only [go_sem, ↓reduceIte, Nat.reduceAdd, Nat.reduceSub, Nat.reduceMul, Nat.reduceEqDiff, Nat.reduceLeDiff, Nat.reduceLT, Nat.reduceBEq, Nat.reduceBNe, Int.reduceToNat, Int.reduceLT, Int.reduceLE, Int.reduceNeg, Int.reduceEq, Int.reduceAdd, Int.reduceSub, Int.reduceMul, Int.reduceTDiv, Int.reduceTMod, reduceCtorEq]
  refine callC.of (new6 hm h6) ?_
  rintro r O' G' ⟨rfl, rfl⟩
  simp (maxSteps := 4000000) only [go_sem, ↓reduceIte, Nat.reduceAdd, Nat.reduceSub, Nat.reduceMul, Nat.reduceEqDiff, Nat.reduceLeDiff, Nat.reduceLT, Nat.reduceBEq, Nat.reduceBNe, Int.reduceToNat, Int.reduceLT, Int.reduceLE, Int.reduceNeg, Int.reduceEq, Int.reduceAdd, Int.reduceSub, Int.reduceMul, Int.reduceTDiv, Int.reduceTMod, reduceCtorEq, Frag.av, fc]
  have hp0 : PRep [AO.arr 5 g [fa.av, fb.av, fc.av], AO.map 0 [], AO.map 0 [], AO.cells [AV.lm 1, AV.lm 2]] 3 s0 (fun l => if l = 3 then 1 else if l = 1 then 2 else if l = 2 then 3 else 0) := ⟨1, 2, [], [], new_prep (O := [AO.arr 5 g [fa.av, fb.av, fc.av]])⟩
  refine tk7 hm hJ h17 h11 h7 (f := fc) (N := 0) (lx := 0) (by decide) hp0 rfl (by simp) s0_good (by decide) st1 ?_
  intro O1 G1 own1 hp1 z1 e1 l1 g1
  replace e1 : O1[0]? = some (AO.arr 5 g [fa.av, fb.av, fc.av]) := e1
  simp (maxSteps := 4000000) only [go_sem, ↓reduceIte, Nat.reduceAdd, Nat.reduceSub, Nat.reduceMul, Nat.reduceEqDiff, Nat.reduceLeDiff, Nat.reduceLT, Nat.reduceBEq, Nat.reduceBNe, Int.reduceToNat, Int.reduceLT, Int.reduceLE, Int.reduceNeg, Int.reduceEq, Int.reduceAdd, Int.reduceSub, Int.reduceMul, Int.reduceTDiv, Int.reduceTMod, reduceCtorEq, e1, Frag.av, fa]
  refine tk7 hm hJ h17 h11 h7 (f := fa) (lx := 0) (by decide) hp1 z1 l1 g1 (by decide) st2 ?_
  intro O2 G2 own2 hp2 z2 e2 l2 g2
  rw [e1] at e2
  simp (maxSteps := 4000000) only [go_sem, ↓reduceIte, Nat.reduceAdd, Nat.reduceSub, Nat.reduceMul, Nat.reduceEqDiff, Nat.reduceLeDiff, Nat.reduceLT, Nat.reduceBEq, Nat.reduceBNe, Int.reduceToNat, Int.reduceLT, Int.reduceLE, Int.reduceNeg, Int.reduceEq, Int.reduceAdd, Int.reduceSub, Int.reduceMul, Int.reduceTDiv, Int.reduceTMod, reduceCtorEq, e2, Frag.av, fa]
  refine tk7 hm hJ h17 h11 h7 (f := fa) (lx := 0) (by decide) hp2 z2 l2 g2 (by decide) st3 ?_
  intro O3 G3 own3 hp3 z3 e3 l3 g3
  rw [e2] at e3
  simp (maxSteps := 4000000) only [go_sem, ↓reduceIte, Nat.reduceAdd, Nat.reduceSub, Nat.reduceMul, Nat.reduceEqDiff, Nat.reduceLeDiff, Nat.reduceLT, Nat.reduceBEq, Nat.reduceBNe, Int.reduceToNat, Int.reduceLT, Int.reduceLE, Int.reduceNeg, Int.reduceEq, Int.reduceAdd, Int.reduceSub, Int.reduceMul, Int.reduceTDiv, Int.reduceTMod, reduceCtorEq, e3, Frag.av, fb, ansAV, no]
  refine tk7 hm hJ h17 h11 h7 (f := fb) (lx := 0) (by decide) hp3 z3 l3 g3 (by decide) st4 ?_
  intro O4 G4 own4 hp4 z4 e4 l4 g4
  have q1 : ((⟨#[97, 98, 99, 100, 101]⟩ : ByteArray) == ⟨#[97, 98, 99, 100, 101]⟩) = true := by decide
  simp (maxSteps := 4000000) only [go_sem, ↓reduceIte, Nat.reduceAdd, Nat.reduceSub, Nat.reduceMul, Nat.reduceEqDiff, Nat.reduceLeDiff, Nat.reduceLT, Nat.reduceBEq, Nat.reduceBNe, Int.reduceToNat, Int.reduceLT, Int.reduceLE, Int.reduceNeg, Int.reduceEq, Int.reduceAdd, Int.reduceSub, Int.reduceMul, Int.reduceTDiv, Int.reduceTMod, reduceCtorEq, ansAV, no, q1]
  obtain ⟨lo, ld, Fs, Ps, hp4⟩ := hp4
  obtain ⟨gg, hop⟩ := hp4.opn
  refine callQ.of (fun _ => open9 hm h9 hp4.root hop) ?_
  have q2 : (pm (List.zipWith (fun (o : Opn) F => (o.key, AV.ref F 0)) s3.opn Fs)).length = 0 := by simp [s3, pm]
  simp (maxSteps := 4000000) only [go_sem, ↓reduceIte, Nat.reduceAdd, Nat.reduceSub, Nat.reduceMul, Nat.reduceEqDiff, Nat.reduceLeDiff, Nat.reduceLT, Nat.reduceBEq, Nat.reduceBNe, Int.reduceToNat, Int.reduceLT, Int.reduceLE, Int.reduceNeg, Int.reduceEq, Int.reduceAdd, Int.reduceSub, Int.reduceMul, Int.reduceTDiv, Int.reduceTMod, reduceCtorEq, q2]
  show shutT _ = _
  rfl
end
end Go.VL.Try
