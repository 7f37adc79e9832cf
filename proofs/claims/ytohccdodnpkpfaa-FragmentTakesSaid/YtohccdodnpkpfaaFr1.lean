/- Fragment: the words of the proof, and the functions that only look. -/
import Derived.Test.YtohccdodnpkpfaaFrLit
import Derived.Test.YtohccdodnpkpfaaVl26
set_option linter.unusedVariables false
set_option linter.unusedSimpArgs false
namespace Go.VL.Try
open Go.RowKit

abbrev i64 (n : Int) : AV := .v (.int .i64 n)
abbrev str (s : ByteArray) : AV := .v (.string s)
abbrev boo (b : Bool) : AV := .v (.bool b)
/-- A fragment. -/
structure Frag where
  fr : Int
  num : Int
  part : Int
  parts : Int
  bytes : ByteArray
def Frag.av (f : Frag) : AV := .agg [i64 f.fr, i64 f.num, i64 f.part, i64 f.parts, str f.bytes]
def Frag.ok (f : Frag) : Bool := decide (1 ≤ f.fr) && decide (f.fr ≤ 16) && decide (0 ≤ f.num) && decide (1 ≤ f.parts) && decide (f.parts ≤ 1000) && decide (0 ≤ f.part) && decide (f.part < f.parts) && !(f.bytes == ⟨#[]⟩)
/-- An open frame: its parts, rising. -/
structure Opn where
  fr : Int
  num : Int
  parts : Int
  l : List Frag
def Opn.is (o : Opn) (f : Frag) : Bool := o.fr == f.fr && o.num == f.num
structure St where
  opn : List Opn
  don : List (Int × Int)

/-- A row that may be nil, or has a place of its own. -/
def Row (O : List AO) (sz : Nat) (x : AV) (xs : List AV) : Prop := (x = .sl [] .full ∧ xs = []) ∨ ∃ l g, x = .lsl l g 0 xs.length ∧ O[l]? = some (.arr sz g xs)

theorem getD_map {α : Type} (f : α → AV) (l : List α) (i : Nat) (h : i < l.length) : (l.map f).getD i .any = f l[i] := by simp [List.getD_eq_getElem?_getD, h]
theorem wrap_in {n : Int} (h : -9223372036854775808 ≤ n) (h' : n ≤ 9223372036854775807) : IntKind.i64.wrap n = n := IntWalk.i64_in n ⟨h, h'⟩


def fnd (L : List Opn) (f : Frag) : Int := match L.findIdx? (·.is f) with | some i => (i : Int) | none => -1
theorem fnd_some {L : List Opn} {f : Frag} {i : Nat} (hi : i < L.length) (h : L[i].is f = true) (hall : ∀ j (h : j < i) (h' : j < L.length), L[j].is f = false) : fnd L f = i := by
  have : L.findIdx? (·.is f) = some i := by
    rw [List.findIdx?_eq_some_iff_getElem]
    exact ⟨hi, h, fun j hj => by simpa using hall j hj (by omega)⟩
  unfold fnd; rw [this]
theorem fnd_none {L : List Opn} {f : Frag} (hall : ∀ j (h' : j < L.length), L[j].is f = false) : fnd L f = -1 := by
  have : L.findIdx? (·.is f) = none := by
    rw [List.findIdx?_eq_none_iff]
    intro x hx
    obtain ⟨j, hj, rfl⟩ := List.getElem_of_mem hx
    exact hall j hj
  unfold fnd; rw [this]

theorem dcon_some {D : List (Int × Int)} {x : Int × Int} {i : Nat} (h : i < D.length) (e : D[i] = x) : D.contains x = true := by
  rw [List.contains_eq_mem, decide_eq_true_eq]; exact e ▸ List.getElem_mem h
theorem dcon_none {D : List (Int × Int)} {x : Int × Int} (h : ∀ j (h : j < D.length), D[j] ≠ x) : D.contains x = false := by
  rw [List.contains_eq_mem, decide_eq_false_iff_not]
  intro hm
  obtain ⟨j, hj, e⟩ := List.getElem_of_mem hm
  exact h j hj e

section
variable {P : Program} (hm : P.follows .mixedOrders = true)
include hm

theorem right13 (h : FnAt P 13 pc13 [2] 1) (f : Frag) : PF P 13 [f.av] (boo f.ok) := by
  refine PF.of_PCall rfl rfl (FnAt.call hm h (Nat.le_refl _) ?_)
  unfold pc13 Frag.av
  simp (maxSteps := 4000000) only [go_sem, ↓reduceIte, Nat.reduceAdd, Nat.reduceSub, Nat.reduceMul, Nat.reduceEqDiff, Nat.reduceLeDiff, Nat.reduceLT, Nat.reduceBEq, Nat.reduceBNe, Int.reduceToNat, Int.reduceLT, Int.reduceLE, Int.reduceNeg, Int.reduceEq, Int.reduceAdd, Int.reduceSub, Int.reduceMul, Int.reduceTDiv, Int.reduceTMod, reduceCtorEq]
  show shutT _ = _
  rfl
theorem may17 (h : FnAt P 17 pc17 [2] 1) (f : Frag) : PF P 17 [f.av] (boo f.ok) := by
  refine PF.of_PCall rfl rfl (FnAt.call hm h (Nat.le_refl _) ?_)
  unfold pc17 Frag.av
  simp (maxSteps := 4000000) only [go_sem, ↓reduceIte, Nat.reduceAdd, Nat.reduceSub, Nat.reduceMul, Nat.reduceEqDiff, Nat.reduceLeDiff, Nat.reduceLT, Nat.reduceBEq, Nat.reduceBNe, Int.reduceToNat, Int.reduceLT, Int.reduceLE, Int.reduceNeg, Int.reduceEq, Int.reduceAdd, Int.reduceSub, Int.reduceMul, Int.reduceTDiv, Int.reduceTMod, reduceCtorEq]
  show shutT _ = _
  rfl

theorem open9 (h : FnAt P 9 pc9 [2] 1) {O : List AO} {G : List Nat} {lj lo : Nat} {cs : List AV} {g : Nat} {es : List (Value × AV)} (hj : O[lj]? = some (.cells (.lm lo :: cs))) (ho : O[lo]? = some (.map g es)) :
    PQ P 9 [.ref lj 0] O G (i64 es.length) := by
  refine FnAt.call hm h (Nat.le_refl _) ?_
  unfold pc9
  simp (maxSteps := 4000000) only [go_sem, ↓reduceIte, Nat.reduceAdd, Nat.reduceSub, Nat.reduceMul, Nat.reduceEqDiff, Nat.reduceLeDiff, Nat.reduceLT, Nat.reduceBEq, Nat.reduceBNe, Int.reduceToNat, Int.reduceLT, Int.reduceLE, Int.reduceNeg, Int.reduceEq, Int.reduceAdd, Int.reduceSub, Int.reduceMul, Int.reduceTDiv, Int.reduceTMod, reduceCtorEq, hj, ho]
  exact ⟨rfl, rfl, rfl⟩

theorem find15 (h : FnAt P 15 pc15 [4] 2) {O : List AO} {G : List Nat} {lr : Nat} {X x : AV} {L : List Opn} {xs : List AV} (hr : O[lr]? = some (.cells [X, x])) (hR : Row O 4 X xs) (hl : xs.length = L.length)
    (hx : ∀ i (h : i < L.length), ∃ y, xs.getD i .any = .agg [i64 L[i].fr, i64 L[i].num, i64 L[i].parts, y]) (hlen : L.length ≤ 1000) (f : Frag) : PQ P 15 [.ref lr 0, f.av] O G (i64 (fnd L f)) := by
  refine PQ.cut rfl (FnAt.call hm h (Nat.le_refl _) ?_)
  unfold pc15 Frag.av
  simp (maxSteps := 4000000) only [go_sem, ↓reduceIte, Nat.reduceAdd, Nat.reduceSub, Nat.reduceMul, Nat.reduceEqDiff, Nat.reduceLeDiff, Nat.reduceLT, Nat.reduceBEq, Nat.reduceBNe, Int.reduceToNat, Int.reduceLT, Int.reduceLE, Int.reduceNeg, Int.reduceEq, Int.reduceAdd, Int.reduceSub, Int.reduceMul, Int.reduceTDiv, Int.reduceTMod, reduceCtorEq]
  have hlr := lt_of_get hr
  refine loopC.of (fun n T O' G' => ∃ i : Nat, T = [(0, .ref lr 0), (3, .ref O.length 0), (5, i64 i)] ∧ O' = O ++ [AO.cells [i64 f.fr, i64 f.num, i64 f.part, i64 f.parts, str f.bytes]] ∧ G' = G ∧ n + i = L.length ∧ ∀ j (h : j < i) (h' : j < L.length), L[j].is f = false) L.length ?_ ?_
  · exact ⟨0, rfl, rfl, rfl, rfl, by omega⟩
  rintro n T O' G' ⟨i, rfl, rfl, rfl, hi, hall⟩
  unfold pc15_1
  by_cases hlt : i < L.length
  · have hlt' : (i : Int) < (L.length : Int) := by omega
    have h0 : (0 : Int) ≤ (i : Int) := by omega
    obtain ⟨y, hy⟩ := hx i hlt
    have hw : IntKind.i64.wrap ((i : Int) + 1) = ((i + 1 : Nat) : Int) := by rw [wrap_in (by omega) (by omega)]; rfl
    rcases hR with ⟨rfl, rfl⟩ | ⟨l, g, rfl, ho⟩
    · simp at hl; omega
    · have hlo := lt_of_get ho
      simp (maxSteps := 4000000) only [go_sem, ↓reduceIte, Nat.reduceAdd, Nat.reduceSub, Nat.reduceMul, Nat.reduceEqDiff, Nat.reduceLeDiff, Nat.reduceLT, Nat.reduceBEq, Nat.reduceBNe, Int.reduceToNat, Int.reduceLT, Int.reduceLE, Int.reduceNeg, Int.reduceEq, Int.reduceAdd, Int.reduceSub, Int.reduceMul, Int.reduceTDiv, Int.reduceTMod, reduceCtorEq, hr, List.getElem?_append_left hlr, ho, List.getElem?_append_left hlo, hl, hlt', h0, hy, hw]
      refine ⟨hlt, fun _ => hlt, ?_⟩
      split
      · rename_i he
        refine ⟨?_, _, [], rfl, by simp⟩
        rw [fnd_some hlt he hall]
      · rename_i he
        refine loopN.of [(0, .ref lr 0), (3, .ref O.length 0), (5, i64 ((i + 1 : Nat) : Int))] (by simp (maxSteps := 4000000) only [go_sem, ↓reduceIte, Nat.reduceAdd, Nat.reduceSub, Nat.reduceMul, Nat.reduceEqDiff, Nat.reduceLeDiff, Nat.reduceLT, Nat.reduceBEq, Nat.reduceBNe, Int.reduceToNat, Int.reduceLT, Int.reduceLE, Int.reduceNeg, Int.reduceEq, Int.reduceAdd, Int.reduceSub, Int.reduceMul, Int.reduceTDiv, Int.reduceTMod, reduceCtorEq]) ⟨n - 1, by omega, i + 1, rfl, rfl, rfl, by omega, ?_⟩
        intro j hj hj'
        by_cases e : j = i
        · subst e; exact Bool.eq_false_iff.2 he
        · exact hall j (by omega) hj'
  · have hlt' : ¬ (i : Int) < (L.length : Int) := by omega
    have e : fnd L f = -1 := fnd_none fun j hj => hall j (by omega) hj
    rcases hR with ⟨rfl, rfl⟩ | ⟨l, g, rfl, ho⟩
    · have hL : L.length = 0 := by simpa using hl.symm
      have hlt2 : ¬ (i : Int) < ((0 : Nat) : Int) := by omega
      simp (maxSteps := 4000000) only [go_sem, ↓reduceIte, Nat.reduceAdd, Nat.reduceSub, Nat.reduceMul, Nat.reduceEqDiff, Nat.reduceLeDiff, Nat.reduceLT, Nat.reduceBEq, Nat.reduceBNe, Int.reduceToNat, Int.reduceLT, Int.reduceLE, Int.reduceNeg, Int.reduceEq, Int.reduceAdd, Int.reduceSub, Int.reduceMul, Int.reduceTDiv, Int.reduceTMod, reduceCtorEq, hr, List.getElem?_append_left hlr, hlt2]
      unfold pc15_2
      simp (maxSteps := 4000000) only [go_sem, ↓reduceIte, Nat.reduceAdd, Nat.reduceSub, Nat.reduceMul, Nat.reduceEqDiff, Nat.reduceLeDiff, Nat.reduceLT, Nat.reduceBEq, Nat.reduceBNe, Int.reduceToNat, Int.reduceLT, Int.reduceLE, Int.reduceNeg, Int.reduceEq, Int.reduceAdd, Int.reduceSub, Int.reduceMul, Int.reduceTDiv, Int.reduceTMod, reduceCtorEq]
      exact ⟨by rw [e], _, [], rfl, by simp⟩
    · have hlo := lt_of_get ho
      simp (maxSteps := 4000000) only [go_sem, ↓reduceIte, Nat.reduceAdd, Nat.reduceSub, Nat.reduceMul, Nat.reduceEqDiff, Nat.reduceLeDiff, Nat.reduceLT, Nat.reduceBEq, Nat.reduceBNe, Int.reduceToNat, Int.reduceLT, Int.reduceLE, Int.reduceNeg, Int.reduceEq, Int.reduceAdd, Int.reduceSub, Int.reduceMul, Int.reduceTDiv, Int.reduceTMod, reduceCtorEq, hr, List.getElem?_append_left hlr, ho, List.getElem?_append_left hlo, hl, hlt']
      unfold pc15_2
      simp (maxSteps := 4000000) only [go_sem, ↓reduceIte, Nat.reduceAdd, Nat.reduceSub, Nat.reduceMul, Nat.reduceEqDiff, Nat.reduceLeDiff, Nat.reduceLT, Nat.reduceBEq, Nat.reduceBNe, Int.reduceToNat, Int.reduceLT, Int.reduceLE, Int.reduceNeg, Int.reduceEq, Int.reduceAdd, Int.reduceSub, Int.reduceMul, Int.reduceTDiv, Int.reduceTMod, reduceCtorEq]
      exact ⟨by rw [e], _, [], rfl, by simp⟩

def dkey (p : Int × Int) : AV := .agg [i64 p.1, i64 p.2]
theorem done14 (h : FnAt P 14 pc14 [4] 2) {O : List AO} {G : List Nat} {lr : Nat} {X x : AV} {D : List (Int × Int)} (hr : O[lr]? = some (.cells [x, X])) (hR : Row O 2 X (D.map dkey)) (hlen : D.length ≤ 1000) (f : Frag) : PQ P 14 [.ref lr 0, f.av] O G (boo (D.contains (f.fr, f.num))) := by
  refine PQ.cut rfl (FnAt.call hm h (Nat.le_refl _) ?_)
  unfold pc14 Frag.av
  simp (maxSteps := 4000000) only [go_sem, ↓reduceIte, Nat.reduceAdd, Nat.reduceSub, Nat.reduceMul, Nat.reduceEqDiff, Nat.reduceLeDiff, Nat.reduceLT, Nat.reduceBEq, Nat.reduceBNe, Int.reduceToNat, Int.reduceLT, Int.reduceLE, Int.reduceNeg, Int.reduceEq, Int.reduceAdd, Int.reduceSub, Int.reduceMul, Int.reduceTDiv, Int.reduceTMod, reduceCtorEq]
  have hlr := lt_of_get hr
  refine loopC.of (fun n T O' G' => ∃ i : Nat, T = [(0, .ref lr 0), (3, .ref O.length 0), (5, i64 i)] ∧ O' = O ++ [AO.cells [i64 f.fr, i64 f.num, i64 f.part, i64 f.parts, str f.bytes]] ∧ G' = G ∧ n + i = D.length ∧ ∀ j (h : j < i) (h' : j < D.length), D[j] ≠ (f.fr, f.num)) D.length ?_ ?_
  · exact ⟨0, rfl, rfl, rfl, rfl, by omega⟩
  rintro n T O' G' ⟨i, rfl, rfl, rfl, hi, hall⟩
  unfold pc14_1
  by_cases hlt : i < D.length
  · have hlt' : (i : Int) < (D.length : Int) := by omega
    have h0 : (0 : Int) ≤ (i : Int) := by omega
    have hy : (D.map dkey).getD i .any = .agg [i64 D[i].1, i64 D[i].2] := getD_map dkey D i hlt
    have hw : IntKind.i64.wrap ((i : Int) + 1) = ((i + 1 : Nat) : Int) := by rw [wrap_in (by omega) (by omega)]; rfl
    rcases hR with ⟨rfl, hd⟩ | ⟨l, g, rfl, ho⟩
    · simp at hd; subst hd; simp at hlt
    · have hlo := lt_of_get ho
      simp (maxSteps := 4000000) only [go_sem, ↓reduceIte, Nat.reduceAdd, Nat.reduceSub, Nat.reduceMul, Nat.reduceEqDiff, Nat.reduceLeDiff, Nat.reduceLT, Nat.reduceBEq, Nat.reduceBNe, Int.reduceToNat, Int.reduceLT, Int.reduceLE, Int.reduceNeg, Int.reduceEq, Int.reduceAdd, Int.reduceSub, Int.reduceMul, Int.reduceTDiv, Int.reduceTMod, reduceCtorEq, hr, List.getElem?_append_left hlr, ho, List.getElem?_append_left hlo, hlt', h0, hy, hw]
      refine ⟨hlt, ?_⟩
      split
      · rename_i he
        refine ⟨?_, _, [], rfl, by simp⟩
        rw [dcon_some hlt (by simpa [Prod.ext_iff] using he)]
      · rename_i he
        refine loopN.of [(0, .ref lr 0), (3, .ref O.length 0), (5, i64 ((i + 1 : Nat) : Int))] (by simp (maxSteps := 4000000) only [go_sem, ↓reduceIte, Nat.reduceAdd, Nat.reduceSub, Nat.reduceMul, Nat.reduceEqDiff, Nat.reduceLeDiff, Nat.reduceLT, Nat.reduceBEq, Nat.reduceBNe, Int.reduceToNat, Int.reduceLT, Int.reduceLE, Int.reduceNeg, Int.reduceEq, Int.reduceAdd, Int.reduceSub, Int.reduceMul, Int.reduceTDiv, Int.reduceTMod, reduceCtorEq]) ⟨n - 1, by omega, i + 1, rfl, rfl, rfl, by omega, ?_⟩
        intro j hj hj'
        by_cases e : j = i
        · subst e; exact fun e => he (by simpa [Prod.ext_iff] using e)
        · exact hall j (by omega) hj'
  · have hlt' : ¬ (i : Int) < (D.length : Int) := by omega
    have e : D.contains (f.fr, f.num) = false := dcon_none fun j hj => hall j (by omega) hj
    rcases hR with ⟨rfl, hd⟩ | ⟨l, g, rfl, ho⟩
    · have hL : D.length = 0 := by simp at hd; simp [hd]
      have hlt2 : ¬ (i : Int) < ((0 : Nat) : Int) := by omega
      simp (maxSteps := 4000000) only [go_sem, ↓reduceIte, Nat.reduceAdd, Nat.reduceSub, Nat.reduceMul, Nat.reduceEqDiff, Nat.reduceLeDiff, Nat.reduceLT, Nat.reduceBEq, Nat.reduceBNe, Int.reduceToNat, Int.reduceLT, Int.reduceLE, Int.reduceNeg, Int.reduceEq, Int.reduceAdd, Int.reduceSub, Int.reduceMul, Int.reduceTDiv, Int.reduceTMod, reduceCtorEq, hr, List.getElem?_append_left hlr, hlt2]
      unfold pc14_2
      simp (maxSteps := 4000000) only [go_sem, ↓reduceIte, Nat.reduceAdd, Nat.reduceSub, Nat.reduceMul, Nat.reduceEqDiff, Nat.reduceLeDiff, Nat.reduceLT, Nat.reduceBEq, Nat.reduceBNe, Int.reduceToNat, Int.reduceLT, Int.reduceLE, Int.reduceNeg, Int.reduceEq, Int.reduceAdd, Int.reduceSub, Int.reduceMul, Int.reduceTDiv, Int.reduceTMod, reduceCtorEq]
      exact ⟨by rw [e], _, [], rfl, by simp⟩
    · have hlo := lt_of_get ho
      simp (maxSteps := 4000000) only [go_sem, ↓reduceIte, Nat.reduceAdd, Nat.reduceSub, Nat.reduceMul, Nat.reduceEqDiff, Nat.reduceLeDiff, Nat.reduceLT, Nat.reduceBEq, Nat.reduceBNe, Int.reduceToNat, Int.reduceLT, Int.reduceLE, Int.reduceNeg, Int.reduceEq, Int.reduceAdd, Int.reduceSub, Int.reduceMul, Int.reduceTDiv, Int.reduceTMod, reduceCtorEq, hr, List.getElem?_append_left hlr, ho, List.getElem?_append_left hlo, hlt']
      unfold pc14_2
      simp (maxSteps := 4000000) only [go_sem, ↓reduceIte, Nat.reduceAdd, Nat.reduceSub, Nat.reduceMul, Nat.reduceEqDiff, Nat.reduceLeDiff, Nat.reduceLT, Nat.reduceBEq, Nat.reduceBNe, Int.reduceToNat, Int.reduceLT, Int.reduceLE, Int.reduceNeg, Int.reduceEq, Int.reduceAdd, Int.reduceSub, Int.reduceMul, Int.reduceTDiv, Int.reduceTMod, reduceCtorEq]
      exact ⟨by rw [e], _, [], rfl, by simp⟩

/-- Open frames but one: a row of its own. -/
theorem without16 (h : FnAt P 16 pc16 [4] 2) {O : List AO} {G : List Nat} {lX gX : Nat} {xs : List AV} (hX : O[lX]? = some (.arr 4 gX xs)) (hs : allSz 4 xs) (hlen : xs.length ≤ 1000) (k : Nat) (hk : k < xs.length) :
    PCall P 16 [.lsl lX gX 0 xs.length, i64 k] O G fun r O' G' => ∃ g, r = .lsl O.length g 0 (xs.length - 1) ∧ O' = O ++ [.arr 4 g (xs.take k ++ xs.drop (k + 1))] ∧ G' = G := by
  refine FnAt.call hm h (Nat.le_refl _) ?_
  unfold pc16
  have hlX := lt_of_get hX
  have h0 : (0 : Int) ≤ (k : Int) := by omega
  have hk' : (k : Int) ≤ (xs.length : Int) := by omega
  have hw : IntKind.i64.wrap ((k : Int) + 1) = ((k + 1 : Nat) : Int) := by rw [wrap_in (by omega) (by omega)]; rfl
  have hk2 : ((k + 1 : Nat) : Int) ≤ (xs.length : Int) := by omega
  have h02 : (0 : Int) ≤ ((k + 1 : Nat) : Int) := by omega
  have hkl : k ≤ xs.length := by omega
  have hsub : k + 1 + (xs.length - (k + 1)) ≤ xs.length := by omega
  have e1 : (xs.drop (k + 1)).take (xs.length - (k + 1)) = xs.drop (k + 1) := List.take_of_length_le (by simp)
  have hs1 : allSz 4 (xs.take k) := fun x hx => hs x (List.mem_of_mem_take hx)
  have hs2 : allSz 4 (xs.drop (k + 1)) := fun x hx => hs x (List.mem_of_mem_drop hx)
  have l1 : (xs.take k).length = k := by simp; omega
  have l2 : (xs.drop (k + 1)).length = xs.length - (k + 1) := by simp
  have b48 : k * 48 ≤ 140737488355328 := by omega
  have b1' : k ≤ 140737488355328 := by omega
  have b3 : (k + (xs.length - (k + 1))) * 48 ≤ 140737488355328 := by omega
  have b4 : k + (xs.length - (k + 1)) ≤ 140737488355328 := by omega
  have b5 : k + (xs.length - (k + 1)) = xs.length - 1 := by omega
  have e2 : (xs.take k).take k = xs.take k := List.take_of_length_le (by rw [l1]; exact Nat.le_refl _)
  have b6 : (xs.length - (k + 1)) * 48 ≤ 140737488355328 := by omega
  have b7 : (xs.length - (k + 1)) ≤ 140737488355328 := by omega
  cases b1 : (xs.take k).isEmpty with
  | true =>
    have z1 : xs.take k = [] := by simpa using b1
    have z2 : k = 0 := by rw [z1] at l1; simpa using l1.symm
    subst z2
    cases b2 : (xs.drop (0 + 1)).isEmpty with
    | true =>
      have z3 : xs.drop (0 + 1) = [] := by simpa using b2
      simp (maxSteps := 4000000) only [go_sem, ↓reduceIte, Nat.reduceAdd, Nat.reduceSub, Nat.reduceMul, Nat.reduceEqDiff, Nat.reduceLeDiff, Nat.reduceLT, Nat.reduceBEq, Nat.reduceBNe, Int.reduceToNat, Int.reduceLT, Int.reduceLE, Int.reduceNeg, Int.reduceEq, Int.reduceAdd, Int.reduceSub, Int.reduceMul, Int.reduceTDiv, Int.reduceTMod, reduceCtorEq, hX, List.getElem?_append_left hlX, h0, hk', hw, hk2, h02, hkl, hsub, e1, hs1, hs2, b1, b2, z1, z3]
      rw [z3] at l2
      exact ⟨by omega, by omega, 0, by rw [show xs.length - 1 = 0 by simpa using l2.symm], rfl, rfl⟩
    | false =>
      simp (maxSteps := 4000000) only [go_sem, ↓reduceIte, Nat.reduceAdd, Nat.reduceSub, Nat.reduceMul, Nat.reduceEqDiff, Nat.reduceLeDiff, Nat.reduceLT, Nat.reduceBEq, Nat.reduceBNe, Int.reduceToNat, Int.reduceLT, Int.reduceLE, Int.reduceNeg, Int.reduceEq, Int.reduceAdd, Int.reduceSub, Int.reduceMul, Int.reduceTDiv, Int.reduceTMod, reduceCtorEq, hX, List.getElem?_append_left hlX, h0, hk', hw, hk2, h02, hkl, hsub, e1, hs1, hs2, b1, b2, z1, l2, b6, b7]
      refine ⟨by omega, by omega, 1, ?_, ?_, rfl⟩
      · rfl
      · rfl
  | false =>
    cases b2 : (xs.drop (k + 1)).isEmpty with
    | true =>
      have z3 : xs.drop (k + 1) = [] := by simpa using b2
      simp (maxSteps := 4000000) only [go_sem, ↓reduceIte, Nat.reduceAdd, Nat.reduceSub, Nat.reduceMul, Nat.reduceEqDiff, Nat.reduceLeDiff, Nat.reduceLT, Nat.reduceBEq, Nat.reduceBNe, Int.reduceToNat, Int.reduceLT, Int.reduceLE, Int.reduceNeg, Int.reduceEq, Int.reduceAdd, Int.reduceSub, Int.reduceMul, Int.reduceTDiv, Int.reduceTMod, reduceCtorEq, hX, List.getElem?_append_left hlX, h0, hk', hw, hk2, h02, hkl, hsub, e1, hs1, hs2, b1, b2, l1, b48, b1', z3]
      rw [z3] at l2
      exact ⟨Int.le_refl _, Nat.le_refl _, 1, by rw [show xs.length - 1 = k by simp at l2; omega], by simp, rfl⟩
    | false =>
      simp (maxSteps := 4000000) only [go_sem, ↓reduceIte, Nat.reduceAdd, Nat.reduceSub, Nat.reduceMul, Nat.reduceEqDiff, Nat.reduceLeDiff, Nat.reduceLT, Nat.reduceBEq, Nat.reduceBNe, Int.reduceToNat, Int.reduceLT, Int.reduceLE, Int.reduceNeg, Int.reduceEq, Int.reduceAdd, Int.reduceSub, Int.reduceMul, Int.reduceTDiv, Int.reduceTMod, reduceCtorEq, hX, List.getElem?_append_left hlX, h0, hk', hw, hk2, h02, hkl, hsub, e1, hs1, hs2, b1, b2, l1, l2, b48, b1', b3, b4, e2]
      exact ⟨Int.le_refl _, Nat.le_refl _, 2, by rw [b5], rfl, rfl⟩
end
end Go.VL.Try
