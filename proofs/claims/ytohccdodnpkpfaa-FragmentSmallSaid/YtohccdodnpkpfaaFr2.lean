/- Fragment: what a fragment does to a state, and that the document's joiner does it. -/
import Derived.Test.YtohccdodnpkpfaaFr1
set_option linter.unusedVariables false
set_option linter.unusedSimpArgs false
namespace Go.VL.Try
open Go.RowKit

instance : Inhabited Frag := ⟨⟨0, 0, 0, 0, ⟨#[]⟩⟩⟩
def insI (l : List Frag) (f : Frag) : Nat → Nat
  | 0 => 0
  | i + 1 => if f.part < (l.getD i default).part then insI l f i else i + 1
def ins (l : List Frag) (f : Frag) : List Frag := l.take (insI l f l.length) ++ f :: l.drop (insI l f l.length)
def cat (l : List Frag) : ByteArray := l.foldl (fun s x => s ++ x.bytes) ⟨#[]⟩
abbrev Ans := ByteArray × Bool × Int
def no (e : Int) : Ans := (⟨#[]⟩, false, e)
/-- A fragment comes to an open frame. -/
def put8 (s : St) (k : Nat) (o : Opn) (f : Frag) : St × Ans :=
  let l := ins o.l f
  if (l.length : Int) < o.parts then (⟨s.opn.set k { o with l := l }, s.don⟩, no 0)
  else (⟨s.opn.take k ++ s.opn.drop (k + 1), s.don ++ [(f.fr, f.num)]⟩, (cat l, true, 0))
def St.step (s : St) (f : Frag) : St × Ans :=
  if f.ok = false then (s, no 11)
  else if s.don.contains (f.fr, f.num) then (s, no 210)
  else match s.opn.findIdx? (·.is f) with
    | some k => match s.opn[k]? with
      | some o => if o.parts = f.parts then (if o.l.any (·.part == f.part) then (s, no 210) else put8 s k o f) else (s, no 11)
      | none => (s, no 0)
    | none => if 50 ≤ s.opn.length then (s, no 211) else put8 ⟨s.opn ++ [⟨f.fr, f.num, f.parts, []⟩], s.don⟩ s.opn.length ⟨f.fr, f.num, f.parts, []⟩ f

structure OGood (o : Opn) : Prop where
  parts1 : 1 ≤ o.parts
  parts2 : o.parts ≤ 1000
  few : (o.l.length : Int) < o.parts
  each : ∀ x ∈ o.l, 0 ≤ x.part ∧ x.part < o.parts ∧ x.bytes.size ≠ 0 ∧ x.bytes.size ≤ 100
  sorted : o.l.Pairwise fun a b => a.part < b.part
structure Good (N : Nat) (s : St) : Prop where
  len : s.opn.length ≤ 50
  don : s.don.length ≤ N
  each : ∀ o ∈ s.opn, OGood o
  uniq : s.opn.Pairwise fun a b => ¬ (a.fr = b.fr ∧ a.num = b.num)

/-! ### The document's joiner in memory -/
def locs1 : AV → List Nat
  | .lsl l _ _ _ => [l]
  | _ => []
def locs : AV → List Nat
  | .agg cs => cs.flatMap locs1
  | x => locs1 x
theorem Row.frame {O O' : List AO} {sz : Nat} {x : AV} {xs : List AV} (h : Row O sz x xs) (hf : ∀ l ∈ locs1 x, O'[l]? = O[l]?) : Row O' sz x xs := by
  rcases h with h | ⟨l, g, rfl, h⟩
  · exact .inl h
  · exact .inr ⟨l, g, rfl, (hf l (by simp [locs1])).trans h⟩
theorem Row.lt {O : List AO} {sz : Nat} {x : AV} {xs : List AV} (h : Row O sz x xs) : ∀ l ∈ locs1 x, l < O.length := by
  rcases h with ⟨rfl, _⟩ | ⟨l, g, rfl, h⟩
  · simp [locs1]
  · simp [locs1, lt_of_get h]
def Opn.hd (o : Opn) (Y : AV) : AV := .agg [i64 o.fr, i64 o.num, i64 o.parts, Y]
/-- The joiner in memory; 'own' tells what each place is: the joiner, its rows, the row of each open frame's parts; 0: not its. -/
structure RAt (O : List AO) (lr : Nat) (s : St) (own : Nat → Nat) (X D : AV) (Ys : List AV) : Prop where
  root : O[lr]? = some (.cells [X, D])
  rowX : Row O 4 X (List.zipWith Opn.hd s.opn Ys)
  rowD : Row O 2 D (s.don.map dkey)
  len : Ys.length = s.opn.length
  rowY : ∀ i (h : i < s.opn.length), Row O 5 (Ys.getD i .any) (s.opn[i].l.map Frag.av)
  own1 : own lr = 1
  own2 : ∀ l ∈ locs1 X, own l = 2
  own3 : ∀ l ∈ locs1 D, own l = 3
  own4 : ∀ i, i < s.opn.length → ∀ l ∈ locs1 (Ys.getD i .any), own l = 4 + i
  lt : ∀ l, own l ≠ 0 → l < O.length
def RRep (O : List AO) (lr : Nat) (s : St) (own : Nat → Nat) : Prop := ∃ (X D : AV) (Ys : List AV), RAt O lr s own X D Ys

theorem RRep.frame {O O' : List AO} {lr : Nat} {s : St} {own : Nat → Nat} (h : RRep O lr s own) (hl : O.length ≤ O'.length) (hf : ∀ l, own l ≠ 0 → O'[l]? = O[l]?) : RRep O' lr s own := by
  obtain ⟨X, D, Ys, h⟩ := h
  exact ⟨X, D, Ys, (hf _ (by rw [h.own1]; simp)).trans h.root, h.rowX.frame fun l hl => hf l (by rw [h.own2 l hl]; simp), h.rowD.frame fun l hl => hf l (by rw [h.own3 l hl]; simp), h.len,
    fun i hi => (h.rowY i hi).frame fun l hl => hf l (by rw [h.own4 i hi l hl]; omega), h.own1, h.own2, h.own3, h.own4, fun l hn => Nat.lt_of_lt_of_le (h.lt l hn) hl⟩

def ansAV (a : Ans) : AV := .tup [str a.1, boo a.2.1, i64 a.2.2]
/-- What a step leaves: the new state at new places, all others as they were. -/
def Left (Rp : List AO → Nat → St → (Nat → Nat) → Prop) (O : List AO) (lr : Nat) (own : Nat → Nat) (q : St × Ans) (r : AV) (O' : List AO) : Prop :=
  r = ansAV q.2 ∧ ∃ own', Rp O' lr q.1 own' ∧ (∀ l, l < O.length → own l = 0 → O'[l]? = O[l]?) ∧ (∀ l, own' l ≠ 0 → own l ≠ 0 ∨ O.length ≤ l) ∧ O.length ≤ O'.length
theorem Left.same {O : List AO} {lr : Nat} {own : Nat → Nat} {s : St} {a : Ans} {J : List AO} (h : RRep O lr s own) : Left RRep O lr own (s, a) (ansAV a) (O ++ J) := by
  obtain ⟨X, D, Ys, h'⟩ := h
  exact ⟨rfl, own, RRep.frame ⟨X, D, Ys, h'⟩ (by simp) (fun l hl => List.getElem?_append_left (h'.lt l hl)), fun l hl _ => List.getElem?_append_left hl, fun l hl => .inl hl, by simp⟩

theorem Left.trans {Rp : List AO → Nat → St → (Nat → Nat) → Prop} {O O1 O' : List AO} {lr : Nat} {own own1 : Nat → Nat} {q : St × Ans} {r : AV} (h : Left Rp O1 lr own1 q r O') (h1 : ∀ l, l < O.length → own l = 0 → O1[l]? = O[l]? ∧ own1 l = 0) (hl : O.length ≤ O1.length) : Left Rp O lr own q r O' := by
  obtain ⟨e, own', k1, k2, k3, k4⟩ := h
  refine ⟨e, own', k1, fun l hlt hn => ?_, fun l hn => ?_, by omega⟩
  · obtain ⟨q1, q2⟩ := h1 l hlt hn
    exact (k2 l (by omega) q2).trans q1
  · rcases Nat.lt_or_ge l O.length with hlt | hge
    · left; intro hz
      obtain ⟨q1, q2⟩ := h1 l hlt hz
      rcases k3 l hn with h | h
      · exact h q2
      · omega
    · exact .inr hge

def arrAt (l : List Frag) (f : Frag) (i : Nat) : List AV := (l.take i ++ f :: l.drop i).map Frag.av
theorem arrAt_len {l : List Frag} {f : Frag} {i : Nat} (h : i ≤ l.length) : (arrAt l f i).length = l.length + 1 := by simp [arrAt]; omega
theorem arrAt_getD {l : List Frag} {f : Frag} {i : Nat} (h : i ≤ l.length) : (arrAt l f i).getD i .any = f.av := by
  unfold arrAt
  rw [getD_map _ _ _ (by simp; omega)]
  rw [List.getElem_append_right (by simp; omega)]
  simp [Nat.min_eq_left h]
theorem arrAt_getD1 {l : List Frag} {f : Frag} {i : Nat} (h : i < l.length) : (arrAt l f (i + 1)).getD i .any = (l.getD i default).av := by
  unfold arrAt
  rw [getD_map _ _ _ (by simp; omega)]
  rw [List.getElem_append_left (by simp; omega)]
  simp [List.getD_eq_getElem?_getD, h]
theorem arrAt_swap {l : List Frag} {f : Frag} {i : Nat} (h : i < l.length) : ((arrAt l f (i + 1)).set (i + 1) (l.getD i default).av).set i f.av = arrAt l f i := by
  unfold arrAt
  rw [← List.map_set, ← List.map_set]
  congr 1
  have e1 : l.getD i default = l[i] := by simp [List.getD_eq_getElem?_getD, h]
  rw [e1, List.take_succ_eq_append_getElem h, List.drop_eq_getElem_cons h]
  have e2 : (l.take i).length = i := by simp; omega
  rw [List.append_assoc, List.set_append_right (h := by simp; omega), List.set_append_right (h := by simp; omega)]
  rw [e2]
  simp
theorem insI_stop {l : List Frag} {f : Frag} {i : Nat} (h : i = 0 ∨ ∃ j, i = j + 1 ∧ ¬ f.part < (l.getD j default).part) : insI l f i = i := by
  rcases h with rfl | ⟨j, rfl, h⟩
  · rfl
  · simp only [insI, if_neg h]
theorem Frag.sz5 (f : Frag) : szOK 5 f.av = true := rfl

theorem ins_len (l : List Frag) (f : Frag) : (ins l f).length = l.length + 1 := by
  unfold ins
  have : insI l f l.length ≤ l.length := by
    have key : ∀ i, insI l f i ≤ i := by
      intro i
      induction i with
      | zero => exact Nat.le_refl _
      | succ i ih => simp only [insI]; split <;> omega
    exact key _
  simp only [List.length_append, List.length_cons, List.length_take, List.length_drop]
  omega
theorem zip_del {k : Nat} {os : List Opn} {Ys : List AV} {o' : Opn} {Y' : AV} (hl : os.length = Ys.length) : (List.zipWith Opn.hd (os.set k o') (Ys.set k Y')).take k ++ (List.zipWith Opn.hd (os.set k o') (Ys.set k Y')).drop (k + 1) =
    List.zipWith Opn.hd (os.take k ++ os.drop (k + 1)) (Ys.take k ++ Ys.drop (k + 1)) := by
  induction os generalizing k Ys with
  | nil => simp
  | cons o os ih =>
    cases Ys with
    | nil => simp at hl
    | cons Y Ys =>
      cases k with
      | zero => simp
      | succ k => simp only [List.set_cons_succ, List.zipWith_cons_cons, List.take_succ_cons, List.drop_succ_cons, List.cons_append]; rw [ih (by simpa using hl)]
theorem ins_bytes {l : List Frag} {f : Frag} (h : ∀ x ∈ l, x.bytes.size ≤ 100) (hf : f.bytes.size ≤ 100) : ∀ x ∈ ins l f, x.bytes.size ≤ 100 := by
  intro x hx
  unfold ins at hx
  rcases List.mem_append.1 hx with hx | hx
  · exact h x (List.mem_of_mem_take hx)
  · rcases List.mem_cons.1 hx with rfl | hx
    · exact hf
    · exact h x (List.mem_of_mem_drop hx)
theorem zip_set {k : Nat} {os : List Opn} {Ys : List AV} {o' : Opn} {Y' : AV} (hk : k < os.length) (hy : k < Ys.length) : (List.zipWith Opn.hd os Ys).set k (o'.hd Y') = List.zipWith Opn.hd (os.set k o') (Ys.set k Y') := by
  induction os generalizing k Ys with
  | nil => simp at hk
  | cons o os ih =>
    cases Ys with
    | nil => simp at hy
    | cons Y Ys =>
      cases k with
      | zero => rfl
      | succ k => simp only [List.zipWith_cons_cons, List.set_cons_succ]; rw [ih (by simpa using hk) (by simpa using hy)]

section
variable {P : Program}

theorem sort8 {O : List AO} {G : List Nat} {t0 t3 t7 : AV} {lo lY gY : Nat} {a b c : AV} {l : List Frag} {f : Frag} (ho : O[lo]? = some (.cells [a, b, c, .lsl lY gY 0 (l.length + 1)])) (hY : O[lY]? = some (.arr 5 gY (arrAt l f l.length))) (hlen : l.length ≤ 1000) (hne : lo ≠ lY)
    {Q : Post} (hQ : ∀ O', O'[lY]? = some (.arr 5 gY ((ins l f).map Frag.av)) → (∀ l, l ≠ lY → O'[l]? = O[l]?) → O'.length = O.length → ∀ i b, Q (.exit 2) [(0, t0), (3, t3), (7, t7), (9, .ref lo 0), (10, i), (125, b)] O' G) :
    loopC (PSem P) pc8_3 Q [(0, t0), (3, t3), (7, t7), (9, .ref lo 0), (10, i64 l.length)] O G := by
  refine loopC.of (fun n T O' G' => n ≤ l.length ∧ T = [(0, t0), (3, t3), (7, t7), (9, .ref lo 0), (10, i64 n)] ∧ G' = G ∧ O'[lY]? = some (.arr 5 gY (arrAt l f n)) ∧ (∀ l, l ≠ lY → O'[l]? = O[l]?) ∧ O'.length = O.length ∧ insI l f n = insI l f l.length) l.length ⟨Nat.le_refl _, rfl, rfl, hY, fun _ _ => rfl, rfl, rfl⟩ ?_
  rintro n T O' G' ⟨hn, rfl, rfl, hY', hfr, hl, hI⟩
  have ho' := (hfr lo hne).trans ho
  unfold pc8_3
  have done : insI l f n = n → (arrAt l f n) = (ins l f).map Frag.av := by
    intro e
    unfold ins arrAt
    rw [← hI, e]
  cases n with
  | zero =>
    have d := done rfl
    have hz : ¬ ((0 : Int) < ((0 : Nat) : Int)) := by omega
    have hw : IntKind.i64.wrap (((0 : Nat) : Int) - 1) = -1 := by rw [wrap_in (by omega) (by omega)]; rfl
    have g1 := arrAt_getD (f := f) (l := l) hn
    unfold Frag.av at g1
    simp (maxSteps := 4000000) only [go_sem, ↓reduceIte, Nat.reduceAdd, Nat.reduceSub, Nat.reduceMul, Nat.reduceEqDiff, Nat.reduceLeDiff, Nat.reduceLT, Nat.reduceBEq, Nat.reduceBNe, Int.reduceToNat, Int.reduceLT, Int.reduceLE, Int.reduceNeg, Int.reduceEq, Int.reduceAdd, Int.reduceSub, Int.reduceMul, Int.reduceTDiv, Int.reduceTMod, reduceCtorEq, hz, ho', hY', g1, hw]
    exact hQ _ (by rw [hY', d]) hfr hl _ _
  | succ n =>
    have hp : (0 : Int) < ((n + 1 : Nat) : Int) := by omega
    have hw : IntKind.i64.wrap (((n + 1 : Nat) : Int) - 1) = (n : Int) := by rw [wrap_in (by omega) (by omega)]; omega
    have g1 := arrAt_getD (f := f) (l := l) hn
    have g2 := arrAt_getD1 (f := f) (l := l) (i := n) (by omega)
    have hln := arrAt_len (f := f) hn
    have b1 : ((n + 1 : Nat) : Int) < ((l.length + 1 : Nat) : Int) := by omega
    have b2 : (n : Int) < ((l.length + 1 : Nat) : Int) := by omega
    have b3 : (0 : Int) ≤ ((n + 1 : Nat) : Int) := by omega
    have b4 : (0 : Int) ≤ (n : Int) := by omega
    unfold Frag.av at g1 g2
    have hYl := lt_of_get hY'
    have hol := lt_of_get ho'
    have c1 : n + 1 < l.length + 1 := by omega
    have c2 : n < l.length + 1 := by omega
    have q1 : ∀ x, (O'.set lY x)[lo]? = O'[lo]? := fun x => List.getElem?_set_ne (Ne.symm hne)
    have q2 : ∀ x, (O'.set lY x)[lY]? = some x := fun x => List.getElem?_set_self hYl
    have sw := arrAt_swap (f := f) (l := l) (i := n) (by omega)
    have g3 : ((arrAt l f (n + 1)).set (n + 1) (l.getD n default).av).getD n .any = (l.getD n default).av := by
      rw [List.getD_eq_getElem?_getD, List.getElem?_set_ne (by omega), ← List.getD_eq_getElem?_getD, arrAt_getD1 (by omega)]
    unfold Frag.av at sw g3
    simp (maxSteps := 4000000) only [go_sem, ↓reduceIte, Nat.reduceAdd, Nat.reduceSub, Nat.reduceMul, Nat.reduceEqDiff, Nat.reduceLeDiff, Nat.reduceLT, Nat.reduceBEq, Nat.reduceBNe, Int.reduceToNat, Int.reduceLT, Int.reduceLE, Int.reduceNeg, Int.reduceEq, Int.reduceAdd, Int.reduceSub, Int.reduceMul, Int.reduceTDiv, Int.reduceTMod, reduceCtorEq, hp, hw, ho', hY', g1, g2, hln, b1, b2, b3, b4, q1, q2, c1, c2, List.length_set, g3, sw]
    split
    · rename_i hlt
      have hlt : f.part < (l.getD n default).part := by simpa using hlt
      refine loopN.of [(0, t0), (3, t3), (7, t7), (9, .ref lo 0), (10, i64 (n : Int))] (by simp (maxSteps := 4000000) only [go_sem, ↓reduceIte, Nat.reduceAdd, Nat.reduceSub, Nat.reduceMul, Nat.reduceEqDiff, Nat.reduceLeDiff, Nat.reduceLT, Nat.reduceBEq, Nat.reduceBNe, Int.reduceToNat, Int.reduceLT, Int.reduceLE, Int.reduceNeg, Int.reduceEq, Int.reduceAdd, Int.reduceSub, Int.reduceMul, Int.reduceTDiv, Int.reduceTMod, reduceCtorEq]) ⟨n, by omega, by omega, rfl, rfl, ?_, ?_, ?_, ?_⟩
      · rw [List.getElem?_set_self (by simp; exact hYl)]
      · intro j hj
        rw [List.getElem?_set_ne (Ne.symm hj), List.getElem?_set_ne (Ne.symm hj)]
        exact hfr j hj
      · simp [hl]
      · rw [← hI]; simp only [insI, if_pos hlt]
    · rename_i hlt
      have hlt : ¬ f.part < (l.getD n default).part := by simpa using hlt
      exact hQ _ (by rw [hY', done (insI_stop (.inr ⟨n, rfl, hlt⟩))]) hfr hl _ _

/-- The bytes, one behind the other. -/
theorem cat_take {l : List Frag} {i : Nat} (h : i < l.length) : cat (l.take (i + 1)) = cat (l.take i) ++ l[i].bytes := by
  unfold cat
  rw [List.take_succ_eq_append_getElem h, List.foldl_append]
  rfl
theorem cat_size {l : List Frag} (h : ∀ x ∈ l, x.bytes.size ≤ 100) : (cat l).size ≤ l.length * 100 := by
  unfold cat
  have key : ∀ (l : List Frag) (s : ByteArray), (∀ x ∈ l, x.bytes.size ≤ 100) → (l.foldl (fun s x => s ++ x.bytes) s).size ≤ s.size + l.length * 100 := by
    intro l
    induction l with
    | nil => intro s _; simp
    | cons x l ih =>
      intro s h
      have h1 := ih (s ++ x.bytes) fun y hy => h y (by simp [hy])
      have h2 := h x (by simp)
      rw [ByteArray.size_append] at h1
      simp only [List.foldl_cons, List.length_cons]
      omega
  have := key l ⟨#[]⟩ h
  rw [show ByteArray.size ⟨#[]⟩ = 0 from rfl] at this
  omega

theorem cat8 {O : List AO} {G : List Nat} {t0 t3 t7 : AV} {lo lY gY : Nat} {a b c : AV} {l : List Frag} (ho : O[lo]? = some (.cells [a, b, c, .lsl lY gY 0 l.length])) (hY : O[lY]? = some (.arr 5 gY (l.map Frag.av))) (hlen : l.length ≤ 1000) (hb : ∀ x ∈ l, x.bytes.size ≤ 100)
    {Q : Post} (hQ : ∀ i b, Q (.exit 4) [(0, t0), (3, t3), (7, t7), (9, .ref lo 0), (11, str (cat l)), (12, i), (165, b)] O G) :
    loopC (PSem P) pc8_5 Q [(0, t0), (3, t3), (7, t7), (9, .ref lo 0), (11, str ⟨#[]⟩), (12, i64 0)] O G := by
  refine loopC.of (fun n T O' G' => ∃ i : Nat, T = [(0, t0), (3, t3), (7, t7), (9, .ref lo 0), (11, str (cat (l.take i))), (12, i64 i)] ∧ O' = O ∧ G' = G ∧ n + i = l.length) l.length ⟨0, rfl, rfl, rfl, rfl⟩ ?_
  rintro n T O' G' ⟨i, rfl, rfl, rfl, hi⟩
  unfold pc8_5
  by_cases hlt : i < l.length
  · have hlt' : (i : Int) < (l.length : Int) := by omega
    have h0 : (0 : Int) ≤ (i : Int) := by omega
    have hw : IntKind.i64.wrap ((i : Int) + 1) = ((i + 1 : Nat) : Int) := by rw [wrap_in (by omega) (by omega)]; rfl
    have hy : (l.map Frag.av).getD i .any = .agg [i64 l[i].fr, i64 l[i].num, i64 l[i].part, i64 l[i].parts, str l[i].bytes] := getD_map _ _ _ hlt
    have c1 := cat_size (l := l.take i) fun x hx => hb x (List.mem_of_mem_take hx)
    have c2 := hb l[i] (List.getElem_mem _)
    have c3 : (l.take i).length ≤ 1000 := by rw [List.length_take]; omega
    simp (maxSteps := 4000000) only [go_sem, ↓reduceIte, Nat.reduceAdd, Nat.reduceSub, Nat.reduceMul, Nat.reduceEqDiff, Nat.reduceLeDiff, Nat.reduceLT, Nat.reduceBEq, Nat.reduceBNe, Int.reduceToNat, Int.reduceLT, Int.reduceLE, Int.reduceNeg, Int.reduceEq, Int.reduceAdd, Int.reduceSub, Int.reduceMul, Int.reduceTDiv, Int.reduceTMod, reduceCtorEq, ho, hY, hlt', h0, hw, hy]
    refine ⟨hlt, by omega, ?_⟩
    refine loopN.of [(0, t0), (3, t3), (7, t7), (9, .ref lo 0), (11, str (cat (l.take (i + 1)))), (12, i64 ((i + 1 : Nat) : Int))] (by simp (maxSteps := 4000000) only [go_sem, ↓reduceIte, Nat.reduceAdd, Nat.reduceSub, Nat.reduceMul, Nat.reduceEqDiff, Nat.reduceLeDiff, Nat.reduceLT, Nat.reduceBEq, Nat.reduceBNe, Int.reduceToNat, Int.reduceLT, Int.reduceLE, Int.reduceNeg, Int.reduceEq, Int.reduceAdd, Int.reduceSub, Int.reduceMul, Int.reduceTDiv, Int.reduceTMod, reduceCtorEq, cat_take hlt]) ⟨n - 1, by omega, i + 1, rfl, rfl, rfl, by omega⟩
  · have hlt' : ¬ (i : Int) < (l.length : Int) := by omega
    simp (maxSteps := 4000000) only [go_sem, ↓reduceIte, Nat.reduceAdd, Nat.reduceSub, Nat.reduceMul, Nat.reduceEqDiff, Nat.reduceLeDiff, Nat.reduceLT, Nat.reduceBEq, Nat.reduceBNe, Int.reduceToNat, Int.reduceLT, Int.reduceLE, Int.reduceNeg, Int.reduceEq, Int.reduceAdd, Int.reduceSub, Int.reduceMul, Int.reduceTDiv, Int.reduceTMod, reduceCtorEq, ho, hY, hlt']
    have := hQ (i64 i) (boo false)
    rw [show l.take i = l by rw [List.take_of_length_le]; omega]
    exact this

/-- A frame was put together: it is open no more. -/
theorem left_del {O O3 : List AO} {lr k : Nat} {s : St} {own : Nat → Nat} {X D D' : AV} {Ys : List AV} {x : Int × Int} {a : Ans} (hr : RAt O lr s own X D Ys) (hk : k < s.opn.length) {lN g : Nat} (root : O3[lr]? = some (.cells [.lsl lN g 0 (s.opn.length - 1), D']))
    (hN : O3[lN]? = some (.arr 4 g (List.zipWith Opn.hd (s.opn.take k ++ s.opn.drop (k + 1)) (Ys.take k ++ Ys.drop (k + 1))))) (rowD : Row O3 2 D' ((s.don ++ [x]).map dkey)) (hD : ∀ l ∈ locs1 D', own l = 3 ∨ O.length ≤ l ∧ l ≠ lN) (hlN : O.length ≤ lN)
    (keep : ∀ l, l < O.length → own l ≠ 1 → own l ≠ 2 → own l ≠ 3 → own l ≠ 4 + k → O3[l]? = O[l]?) (hlen : O.length ≤ O3.length) : Left RRep O lr own (⟨s.opn.take k ++ s.opn.drop (k + 1), s.don ++ [x]⟩, a) (ansAV a) O3 := by
  let own' : Nat → Nat := fun l => if l = lN then 2 else if l ∈ locs1 D' then 3 else if own l = 1 then 1 else if own l ≤ 3 then 0 else if own l = 4 + k then 0 else if 4 + k < own l then own l - 1 else own l
  have hyl : (Ys.take k).length = k := by rw [List.length_take, hr.len]; omega
  have hol : (s.opn.take k).length = k := by rw [List.length_take]; omega
  have gy : ∀ i, (Ys.take k ++ Ys.drop (k + 1)).getD i .any = Ys.getD (if i < k then i else i + 1) .any := by
    intro i
    simp only [List.getD_eq_getElem?_getD]
    split
    · rename_i h; rw [List.getElem?_append_left (by omega), List.getElem?_take, if_pos h]
    · rename_i h; rw [List.getElem?_append_right (by omega), hyl, List.getElem?_drop]; congr 2; omega
  have go : ∀ i (h : i < (s.opn.take k ++ s.opn.drop (k + 1)).length), ∃ h', (s.opn.take k ++ s.opn.drop (k + 1))[i] = s.opn[if i < k then i else i + 1]'h' := by
    intro i h
    simp at h
    refine ⟨by split <;> omega, ?_⟩
    split
    · rename_i h2; rw [List.getElem_append_left (by omega), List.getElem_take]
    · rename_i h2
      rw [List.getElem_append_right (by omega), List.getElem_drop]
      congr 1; omega
  have nr : lr ≠ lN := by have := lt_of_get hr.root; omega
  have hrD : lr ∉ locs1 D' := by
    intro h
    have := hr.own1; have := lt_of_get hr.root
    rcases hD lr h with h | h <;> omega
  refine ⟨rfl, own', ⟨.lsl lN g 0 (s.opn.length - 1), D', Ys.take k ++ Ys.drop (k + 1), root, ?_, rowD, ?_, ?_, ?_, ?_, ?_, ?_, ?_⟩, ?_, ?_, hlen⟩
  · refine .inr ⟨lN, g, ?_, hN⟩
    congr 1
    simp [hr.len]; omega
  · simp [hr.len]
  · intro i hi
    obtain ⟨h', e⟩ := go i hi
    rw [gy i]
    dsimp only
    rw [e]
    refine (hr.rowY _ h').frame fun l hl => ?_
    have := hr.own4 _ h' l hl
    exact keep l ((hr.rowY _ h').lt l hl) (by omega) (by omega) (by omega) (by split at this <;> omega)
  · simp only [own', if_neg nr, if_neg hrD, hr.own1, if_true]
  · intro l hl
    simp [locs1] at hl
    simp only [own', hl, if_true]
  · intro l hl
    have : l ≠ lN := by
      rintro rfl
      rcases hD l hl with h | h
      · have := hr.lt l (by omega); omega
      · exact h.2 rfl
    simp only [own', if_neg this, if_pos hl]
  · intro i hi l hl
    obtain ⟨h', e⟩ := go i hi
    rw [gy i] at hl
    have o4 := hr.own4 _ h' l hl
    have hlt := (hr.rowY _ h').lt l hl
    have n1 : l ≠ lN := by omega
    have n2 : l ∉ locs1 D' := by
      intro h
      rcases hD l h with h | h <;> omega
    simp only [own', if_neg n1, if_neg n2]
    split at o4 <;> (repeat' split) <;> omega
  · intro l hl
    by_cases e1 : l = lN
    · subst e1; exact lt_of_get hN
    · by_cases e2 : l ∈ locs1 D'
      · exact rowD.lt l e2
      · have : own l ≠ 0 := by
          intro h
          simp only [own', if_neg e1, if_neg e2, h] at hl
          simp at hl
        have := hr.lt l this
        omega
  · intro l hl hn
    exact keep l hl (by omega) (by omega) (by omega) (by omega)
  · intro l hl
    by_cases e1 : l = lN
    · right; omega
    · by_cases e2 : l ∈ locs1 D'
      · rcases hD l e2 with h | h
        · left; omega
        · right; omega
      · left
        intro h
        simp only [own', if_neg e1, if_neg e2, h] at hl
        simp at hl

/-- The end: the frame is stored back, or put together. -/
theorem fin8 (hm : P.follows .mixedOrders = true) (h16 : FnAt P 16 pc16 [4] 2) {O O1 : List AO} {G : List Nat} {lr lf lo k : Nat} {s : St} {own : Nat → Nat} {lX gX lY gY : Nat} {D : AV} {Ys : List AV} (hr : RAt O lr s own (.lsl lX gX 0 s.opn.length) D Ys) (hX : O[lX]? = some (.arr 4 gX (List.zipWith Opn.hd s.opn Ys)))
    (hk : k < s.opn.length) {f : Frag} (hfr : s.opn[k].fr = f.fr) (hnum : s.opn[k].num = f.num) (hl : s.opn[k].l.length ≤ 999) (hb : ∀ x ∈ ins s.opn[k].l f, x.bytes.size ≤ 100) (hdon : s.don.length ≤ 900) (hopn : s.opn.length ≤ 900)
    (hfr1 : ∀ l, l < O.length → own l ≠ 4 + k → O1[l]? = O[l]?) (hlen : O.length ≤ O1.length) (hlo : O1[lo]? = some (.cells [i64 s.opn[k].fr, i64 s.opn[k].num, i64 s.opn[k].parts, .lsl lY gY 0 (ins s.opn[k].l f).length])) (hlo' : O.length ≤ lo)
    (hlf : O1[lf]? = some (.cells [i64 f.fr, i64 f.num, i64 f.part, i64 f.parts, str f.bytes])) (hlf' : own lf = 0)
    (hY : O1[lY]? = some (.arr 5 gY ((ins s.opn[k].l f).map Frag.av))) (hYo : own lY = 4 + k ∨ O.length ≤ lY) (hne : lY ≠ lo) (hnf : lY ≠ lf) :
    pe (PSem P) pc8_4 (RetK [4, 5, 6] fun r O' G' => Left RRep O lr own (put8 s k s.opn[k] f) r O') [(0, .ref lr 0), (3, .ref lf 0), (7, i64 k), (9, .ref lo 0)] O1 G := by
  unfold pc8_4
  have hroot := (hfr1 lr (lt_of_get hr.root) (by rw [hr.own1]; omega)).trans hr.root
  have ownX : own lX = 2 := hr.own2 lX (by simp [locs1])
  have hX1 := (hfr1 lX (lt_of_get hX) (by rw [ownX]; omega)).trans hX
  have hzl : (List.zipWith Opn.hd s.opn Ys).length = s.opn.length := by simp [hr.len]
  have hgd : (List.zipWith Opn.hd s.opn Ys).getD k .any = .agg [i64 s.opn[k].fr, i64 s.opn[k].num, i64 s.opn[k].parts, Ys.getD k .any] := by
    rw [List.getD_eq_getElem?_getD, List.getElem?_eq_getElem (by omega), List.getElem_zipWith]
    have : Ys.getD k .any = Ys[k]'(by have := hr.len; omega) := by rw [List.getD_eq_getElem?_getD, List.getElem?_eq_getElem (by have := hr.len; omega)]; rfl
    rw [this]; rfl
  have hk1 : (k : Int) < (s.opn.length : Int) := by omega
  have hk2 : (0 : Int) ≤ (k : Int) := by omega
  have nX : lX ≠ lo := fun e => by have := lt_of_get hX; omega
  have nXr : lX ≠ lr := fun e => by subst e; have := hr.own1; omega
  have nXY : lX ≠ lY := fun e => by subst e; have := lt_of_get hX; omega
  have nXf : lX ≠ lf := fun e => by subst e; omega
  have hlX := lt_of_get hX1
  have f1 := cat_size hb
  have inslen : (ins s.opn[k].l f).length = s.opn[k].l.length + 1 := ins_len _ _
  simp (maxSteps := 4000000) only [go_sem, ↓reduceIte, Nat.reduceAdd, Nat.reduceSub, Nat.reduceMul, Nat.reduceEqDiff, Nat.reduceLeDiff, Nat.reduceLT, Nat.reduceBEq, Nat.reduceBNe, Int.reduceToNat, Int.reduceLT, Int.reduceLE, Int.reduceNeg, Int.reduceEq, Int.reduceAdd, Int.reduceSub, Int.reduceMul, Int.reduceTDiv, Int.reduceTMod, reduceCtorEq, hroot, hX1, hlo, hzl, hgd, hk, hk1, hk2, List.getElem?_set_ne nX, List.getElem?_set_ne nXr, List.getElem?_set_ne nXY, List.getElem?_set_ne nXf]
  -- the row with the frame
  let o' : Opn := { s.opn[k] with l := ins s.opn[k].l f }
  let Y' : AV := .lsl lY gY 0 (ins s.opn[k].l f).length
  have hrow : (List.zipWith Opn.hd s.opn Ys).set k (.agg [i64 s.opn[k].fr, i64 s.opn[k].num, i64 s.opn[k].parts, Y']) = List.zipWith Opn.hd (s.opn.set k o') (Ys.set k Y') := zip_set (o' := o') (Y' := Y') hk (by rw [hr.len]; exact hk)
  rw [show (AV.agg [i64 s.opn[k].fr, i64 s.opn[k].num, i64 s.opn[k].parts, .lsl lY gY 0 (ins s.opn[k].l f).length]) = .agg [i64 s.opn[k].fr, i64 s.opn[k].num, i64 s.opn[k].parts, Y'] from rfl, hrow]
  have hO2 : ∀ l, l ≠ lX → (O1.set lX (AO.arr 4 gX (List.zipWith Opn.hd (s.opn.set k o') (Ys.set k Y'))))[l]? = O1[l]? := fun l h => List.getElem?_set_ne (Ne.symm h)
  have hO2X : (O1.set lX (AO.arr 4 gX (List.zipWith Opn.hd (s.opn.set k o') (Ys.set k Y'))))[lX]? = some (AO.arr 4 gX (List.zipWith Opn.hd (s.opn.set k o') (Ys.set k Y'))) := List.getElem?_set_self hlX
  have hO2l : (O1.set lX (AO.arr 4 gX (List.zipWith Opn.hd (s.opn.set k o') (Ys.set k Y')))).length = O1.length := List.length_set
  generalize (O1.set lX (AO.arr 4 gX (List.zipWith Opn.hd (s.opn.set k o') (Ys.set k Y')))) = O2 at hO2 hO2X hO2l ⊢
  have a1 := (hO2 lr (Ne.symm nXr)).trans hroot
  have a2 := (hO2 lo (Ne.symm nX)).trans hlo
  have a3 := (hO2 lY (Ne.symm nXY)).trans hY
  have a4 := (hO2 lf (Ne.symm nXf)).trans hlf
  simp (maxSteps := 4000000) only [go_sem, ↓reduceIte, Nat.reduceAdd, Nat.reduceSub, Nat.reduceMul, Nat.reduceEqDiff, Nat.reduceLeDiff, Nat.reduceLT, Nat.reduceBEq, Nat.reduceBNe, Int.reduceToNat, Int.reduceLT, Int.reduceLE, Int.reduceNeg, Int.reduceEq, Int.reduceAdd, Int.reduceSub, Int.reduceMul, Int.reduceTDiv, Int.reduceTMod, reduceCtorEq, hY, a1, a2, a3, a4]
  -- where the places are
  have oY : ∀ l, l < O.length → own l = 0 → O2[l]? = O[l]? := by
    intro l hl hn
    rw [hO2 l (by rintro rfl; omega)]
    exact hfr1 l hl (by omega)
  have hkeep : ∀ l, l < O.length → own l ≠ 4 + k → l ≠ lX → O2[l]? = O[l]? := fun l hl h1 h2 => (hO2 l h2).trans (hfr1 l hl h1)
  split
  · rename_i hlt
    have hlt : (((ins s.opn[k].l f).length : Nat) : Int) < s.opn[k].parts := by simpa using hlt
    have e : put8 s k s.opn[k] f = (⟨s.opn.set k o', s.don⟩, no 0) := by unfold put8; rw [if_pos hlt]
    show Left RRep O lr own (put8 s k s.opn[k] f) _ _
    rw [e]
    refine ⟨rfl, fun l => if l = lY then 4 + k else own l, ⟨.lsl lX gX 0 s.opn.length, D, Ys.set k Y', a1, ?_, ?_, ?_, ?_, ?_, ?_, ?_, ?_, ?_⟩, oY, ?_, by omega⟩
    · exact .inr ⟨lX, gX, by simp [hr.len], hO2X⟩
    · refine hr.rowD.frame fun l hl => hkeep l (hr.rowD.lt l hl) ?_ ?_
      · rw [hr.own3 l hl]; omega
      · rintro rfl; have := hr.own3 l hl; omega
    · simp [hr.len]
    · intro i hi
      have hi2 : i < s.opn.length := by simpa using hi
      by_cases ei : i = k
      · subst ei
        rw [show (Ys.set i Y').getD i .any = Y' by rw [List.getD_eq_getElem?_getD, List.getElem?_set_self (by rw [hr.len]; exact hk)]; rfl]
        refine .inr ⟨lY, gY, ?_, ?_⟩
        · simp [Y', o']
        · simp [o', a3]
      · rw [show (Ys.set k Y').getD i .any = Ys.getD i .any by rw [List.getD_eq_getElem?_getD, List.getElem?_set_ne (Ne.symm ei), ← List.getD_eq_getElem?_getD]]
        rw [show (s.opn.set k o')[i]'hi = s.opn[i] by rw [List.getElem_set_ne (Ne.symm ei)]]
        refine (hr.rowY i hi2).frame fun l hl => hkeep l ((hr.rowY i hi2).lt l hl) ?_ ?_
        · rw [hr.own4 i hi2 l hl]; omega
        · rintro rfl; have := hr.own4 i hi2 l hl; omega
    · show (if lr = lY then 4 + k else own lr) = 1
      rw [if_neg]
      · exact hr.own1
      · rintro rfl; have := hr.own1; have := lt_of_get hr.root; omega
    · intro l hl
      simp [locs1] at hl
      subst hl
      show (if l = lY then 4 + k else own l) = 2
      rw [if_neg nXY]; exact ownX
    · intro l hl
      show (if l = lY then 4 + k else own l) = 3
      rw [if_neg]
      · exact hr.own3 l hl
      · rintro rfl; have := hr.own3 l hl; have := hr.rowD.lt l hl; omega
    · intro i hi l hl
      have hi2 : i < s.opn.length := by simpa using hi
      show (if l = lY then 4 + k else own l) = 4 + i
      by_cases ei : i = k
      · subst ei
        rw [show (Ys.set i Y').getD i .any = Y' by rw [List.getD_eq_getElem?_getD, List.getElem?_set_self (by rw [hr.len]; exact hk)]; rfl] at hl
        simp [Y', locs1] at hl
        rw [if_pos hl]
      · rw [show (Ys.set k Y').getD i .any = Ys.getD i .any by rw [List.getD_eq_getElem?_getD, List.getElem?_set_ne (Ne.symm ei), ← List.getD_eq_getElem?_getD]] at hl
        rw [if_neg]
        · exact hr.own4 i hi2 l hl
        · rintro rfl; have := hr.own4 i hi2 l hl; have := (hr.rowY i hi2).lt l hl; omega
    · intro l hl
      replace hl : (if l = lY then 4 + k else own l) ≠ 0 := hl
      split at hl
      · rename_i e; subst e; exact lt_of_get a3
      · have := hr.lt l hl; omega
    · intro l hl
      replace hl : (if l = lY then 4 + k else own l) ≠ 0 := hl
      split at hl
      · rename_i e; subst e; omega
      · exact .inl hl
  · rename_i hlt
    have hlt : ¬ (((ins s.opn[k].l f).length : Nat) : Int) < s.opn[k].parts := by simpa using hlt
    have e : put8 s k s.opn[k] f = (⟨s.opn.take k ++ s.opn.drop (k + 1), s.don ++ [(f.fr, f.num)]⟩, (cat (ins s.opn[k].l f), true, 0)) := by unfold put8; rw [if_neg hlt]
    refine cat8 a2 a3 (by rw [inslen]; omega) hb ?_
    intro i b
    simp (maxSteps := 4000000) only [go_sem, ↓reduceIte, Nat.reduceAdd, Nat.reduceSub, Nat.reduceMul, Nat.reduceEqDiff, Nat.reduceLeDiff, Nat.reduceLT, Nat.reduceBEq, Nat.reduceBNe, Int.reduceToNat, Int.reduceLT, Int.reduceLE, Int.reduceNeg, Int.reduceEq, Int.reduceAdd, Int.reduceSub, Int.reduceMul, Int.reduceTDiv, Int.reduceTMod, reduceCtorEq]
    unfold pc8_6
    simp (maxSteps := 4000000) only [go_sem, ↓reduceIte, Nat.reduceAdd, Nat.reduceSub, Nat.reduceMul, Nat.reduceEqDiff, Nat.reduceLeDiff, Nat.reduceLT, Nat.reduceBEq, Nat.reduceBNe, Int.reduceToNat, Int.reduceLT, Int.reduceLE, Int.reduceNeg, Int.reduceEq, Int.reduceAdd, Int.reduceSub, Int.reduceMul, Int.reduceTDiv, Int.reduceTMod, reduceCtorEq, a1, a2, a3, a4]
    have hz2 : (List.zipWith Opn.hd (s.opn.set k o') (Ys.set k Y')).length = s.opn.length := by simp [hr.len]
    have hsz : allSz 4 (List.zipWith Opn.hd (s.opn.set k o') (Ys.set k Y')) := by
      intro x hx
      obtain ⟨i, hi, rfl⟩ := List.getElem_of_mem hx
      rw [List.getElem_zipWith]; rfl
    have hc := without16 hm h16 (G := G) hO2X hsz (by rw [hz2]; omega) k (by rw [hz2]; exact hk)
    rw [hz2] at hc
    refine callC.of hc ?_
    rintro r O' G' ⟨g, rfl, rfl, rfl⟩
    have hrl := lt_of_get a1
    have hfl := lt_of_get a4
    have hdl := hr.rowD
    -- the row without the frame
    have hzd : (List.zipWith Opn.hd (s.opn.set k o') (Ys.set k Y')).take k ++ (List.zipWith Opn.hd (s.opn.set k o') (Ys.set k Y')).drop (k + 1) = List.zipWith Opn.hd (s.opn.take k ++ s.opn.drop (k + 1)) (Ys.take k ++ Ys.drop (k + 1)) := zip_del hr.len.symm
    rw [hzd]
    have nlr : (O2 ++ [AO.arr 4 g (List.zipWith Opn.hd (s.opn.take k ++ s.opn.drop (k + 1)) (Ys.take k ++ Ys.drop (k + 1)))])[lr]? = some (AO.cells [AV.lsl lX gX 0 s.opn.length, D]) := by rw [List.getElem?_append_left hrl]; exact a1
    have hl1 : ([AV.lsl lX gX 0 s.opn.length, D] : List AV).length = 2 := rfl
    have nrf : lr ≠ lf := fun e => by subst e; have := hr.own1; omega
    rcases hdl with ⟨rfl, hd⟩ | ⟨lD, gD, rfl, hD⟩
    · have hdn : s.don = [] := by simpa using hd
      simp (maxSteps := 4000000) only [go_sem, ↓reduceIte, Nat.reduceAdd, Nat.reduceSub, Nat.reduceMul, Nat.reduceEqDiff, Nat.reduceLeDiff, Nat.reduceLT, Nat.reduceBEq, Nat.reduceBNe, Int.reduceToNat, Int.reduceLT, Int.reduceLE, Int.reduceNeg, Int.reduceEq, Int.reduceAdd, Int.reduceSub, Int.reduceMul, Int.reduceTDiv, Int.reduceTMod, reduceCtorEq, nlr, hrl, hfl, a1, nrf, a4]
      show Left RRep O lr own (put8 s k s.opn[k] f) _ _
      rw [e]
      refine left_del hr hk (lN := O2.length) (g := g) (D' := .lsl (O2.length + 1) 1 0 1) ?_ ?_ ?_ ?_ (by omega) ?_ ?_
      · rw [List.getElem?_append_left (by simp; exact hrl), List.getElem?_set_self (by simp; exact hrl)]
      · rw [app_get0' (by simp)]; rfl
      · rw [hdn]
        refine .inr ⟨_, 1, rfl, ?_⟩
        rw [app_getk' (by simp)]; rfl
      · intro l hl
        simp [locs1] at hl
        exact .inr ⟨by omega, by omega⟩
      · intro l hl h1 h2 h3 h4
        have n1 : l ≠ lr := by rintro rfl; exact h1 hr.own1
        rw [List.getElem?_append_left (by simp; omega), List.getElem?_set_ne (Ne.symm n1), List.getElem?_set_ne (Ne.symm n1)]
        exact hkeep l hl h4 (by rintro rfl; exact h2 ownX)
      · simp; omega
    · have nDr : lD ≠ lr := fun e => by subst e; have := hr.own1; have := hr.own3 lD (by simp [locs1]); omega
      have hD2 := (hkeep lD (lt_of_get hD) (by rw [hr.own3 lD (by simp [locs1])]; omega) (by rintro rfl; have := hr.own3 lD (by simp [locs1]); omega)).trans hD
      have hDl := lt_of_get hD2
      have z1 : allSz 2 (List.map dkey s.don) := allSz_map (fun _ => rfl) _
      have z2 : (s.don.length + 1) * 16 ≤ 140737488355328 := by omega
      have z3 : s.don.length ≤ 140737488355327 := by omega
      have z4 : (List.map dkey s.don).take s.don.length = List.map dkey s.don := List.take_of_length_le (by simp)
      simp (maxSteps := 4000000) only [go_sem, ↓reduceIte, Nat.reduceAdd, Nat.reduceSub, Nat.reduceMul, Nat.reduceEqDiff, Nat.reduceLeDiff, Nat.reduceLT, Nat.reduceBEq, Nat.reduceBNe, Int.reduceToNat, Int.reduceLT, Int.reduceLE, Int.reduceNeg, Int.reduceEq, Int.reduceAdd, Int.reduceSub, Int.reduceMul, Int.reduceTDiv, Int.reduceTMod, reduceCtorEq, nlr, hrl, hfl, a1, nrf, a4, nDr, Ne.symm nDr, hD2, hDl, z1, z2, z3, z4]
      refine ⟨Nat.le_refl _, ?_⟩
      show Left RRep O lr own (put8 s k s.opn[k] f) _ _
      rw [e]
      refine left_del hr hk (lN := O2.length) (g := g) (D' := .lsl lD (gD + 1) 0 (s.don.length + 1)) ?_ ?_ ?_ ?_ (by omega) ?_ ?_
      · rw [List.getElem?_append_left (by simp; exact hrl), List.getElem?_set_self (by simp; exact hrl)]
      · rw [app_get0' (by simp)]; rfl
      · refine .inr ⟨lD, gD + 1, by simp, ?_⟩
        rw [List.getElem?_append_left (by simp; exact hDl), List.getElem?_set_ne (Ne.symm nDr), List.getElem?_set_self (by simp; exact hDl)]
        simp [dkey]
      · intro l hl
        simp [locs1] at hl
        subst hl
        exact .inl (hr.own3 l (by simp [locs1]))
      · intro l hl h1 h2 h3 h4
        have n1 : l ≠ lr := by rintro rfl; exact h1 hr.own1
        have n2 : l ≠ lD := by rintro rfl; exact h3 (hr.own3 l (by simp [locs1]))
        rw [List.getElem?_append_left (by simp; omega), List.getElem?_set_ne (Ne.symm n1), List.getElem?_set_ne (Ne.symm n2), List.getElem?_set_ne (Ne.symm n1)]
        exact hkeep l hl h4 (by rintro rfl; exact h2 ownX)
      · simp; omega

theorem mid8 (hm : P.follows .mixedOrders = true) (h16 : FnAt P 16 pc16 [4] 2) {O : List AO} {G : List Nat} {lr lf k : Nat} {s : St} {own : Nat → Nat} {X D : AV} {Ys : List AV} (hr : RAt O lr s own X D Ys)
    (hk : k < s.opn.length) {f : Frag} (hfr : s.opn[k].fr = f.fr) (hnum : s.opn[k].num = f.num) (hl : s.opn[k].l.length ≤ 999) (hb : ∀ x ∈ ins s.opn[k].l f, x.bytes.size ≤ 100) (hdon : s.don.length ≤ 900) (hopn : s.opn.length ≤ 900)
    (hlf : O[lf]? = some (.cells [i64 f.fr, i64 f.num, i64 f.part, i64 f.parts, str f.bytes])) (hlf' : own lf = 0) {T : Tmps} (t0 : get T 0 = .ref lr 0) (t3 : get T 3 = .ref lf 0) (t7 : get T 7 = i64 k) :
    pe (PSem P) pc8_2 (RetK [4, 5, 6] fun r O' G' => Left RRep O lr own (put8 s k s.opn[k] f) r O') T O G := by
  obtain ⟨lX, gX, rfl, hX⟩ : ∃ lX gX, X = .lsl lX gX 0 s.opn.length ∧ O[lX]? = some (.arr 4 gX (List.zipWith Opn.hd s.opn Ys)) := by
    rcases hr.rowX with ⟨rfl, hx⟩ | ⟨lX, gX, rfl, hX⟩
    · have := congrArg List.length hx
      simp [hr.len] at this; rw [this] at hk; simp at hk
    · exact ⟨lX, gX, by simp [hr.len], hX⟩
  have hroot := hr.root
  have hzl : (List.zipWith Opn.hd s.opn Ys).length = s.opn.length := by simp [hr.len]
  have hgd : (List.zipWith Opn.hd s.opn Ys).getD k .any = .agg [i64 s.opn[k].fr, i64 s.opn[k].num, i64 s.opn[k].parts, Ys.getD k .any] := by
    rw [List.getD_eq_getElem?_getD, List.getElem?_eq_getElem (by omega), List.getElem_zipWith]
    have : Ys.getD k .any = Ys[k]'(by have := hr.len; omega) := by rw [List.getD_eq_getElem?_getD, List.getElem?_eq_getElem (by have := hr.len; omega)]; rfl
    rw [this]; rfl
  have hk1 : (k : Int) < (s.opn.length : Int) := by omega
  have hk2 : (0 : Int) ≤ (k : Int) := by omega
  have hrl := lt_of_get hroot
  have hXl := lt_of_get hX
  have hfl := lt_of_get hlf
  have hY := hr.rowY k hk
  have hY4 := hr.own4 k hk
  have inslen : (ins s.opn[k].l f).length = s.opn[k].l.length + 1 := ins_len _ _
  have hall : arrAt s.opn[k].l f s.opn[k].l.length = s.opn[k].l.map Frag.av ++ [f.av] := by simp [arrAt]
  unfold pc8_2
  generalize hYe : Ys.getD k .any = Y at *
  -- both ways lead to one
  have key : ∀ (O1 : List AO) (lY gY : Nat), O1[O.length]? = some (.cells [i64 s.opn[k].fr, i64 s.opn[k].num, i64 s.opn[k].parts, .lsl lY gY 0 (s.opn[k].l.length + 1)]) → O1[lY]? = some (.arr 5 gY (s.opn[k].l.map Frag.av ++ [f.av])) → (∀ l, l < O.length → own l ≠ 4 + k → O1[l]? = O[l]?) → O.length ≤ O1.length →
      (own lY = 4 + k ∨ O.length < lY) → loopC (PSem P) pc8_3 (BlkK 2 (SeqK (pe (PSem P) pc8_4 (RetK [4, 5, 6] fun r O' G' => Left RRep O lr own (put8 s k s.opn[k] f) r O')) (RetK [4, 5, 6] fun r O' G' => Left RRep O lr own (put8 s k s.opn[k] f) r O'))) [(0, .ref lr 0), (3, .ref lf 0), (7, i64 k), (9, .ref O.length 0), (10, i64 s.opn[k].l.length)] O1 G := by
    intro O1 lY gY a1 a2 a3 a4 a5
    have n1 : O.length ≠ lY := by
      rcases a5 with h | h
      · have := hr.lt lY (by omega); omega
      · omega
    refine sort8 a1 (by rw [hall]; exact a2) (by omega) n1 ?_
    intro O' b1 b2 b3 i b
    simp (maxSteps := 4000000) only [go_sem, ↓reduceIte, Nat.reduceAdd, Nat.reduceSub, Nat.reduceMul, Nat.reduceEqDiff, Nat.reduceLeDiff, Nat.reduceLT, Nat.reduceBEq, Nat.reduceBNe, Int.reduceToNat, Int.reduceLT, Int.reduceLE, Int.reduceNeg, Int.reduceEq, Int.reduceAdd, Int.reduceSub, Int.reduceMul, Int.reduceTDiv, Int.reduceTMod, reduceCtorEq]
    have n2 : lf ≠ lY := by
      rintro rfl
      rcases a5 with h | h <;> omega
    refine fin8 hm h16 hr hX hk hfr hnum hl hb hdon hopn ?_ (by omega) (lY := lY) (gY := gY) ?_ (Nat.le_refl _) ?_ hlf' b1 (by omega) (Ne.symm n1) (Ne.symm n2)
    · intro l hl hn
      rw [b2 l (by rintro rfl; rcases a5 with h | h <;> omega)]
      exact a3 l hl hn
    · rw [b2 _ n1, inslen]; exact a1
    · rw [b2 _ n2, a3 lf hfl (by omega)]; exact hlf
  have z1 : allSz 5 (s.opn[k].l.map Frag.av) := allSz_map (fun _ => rfl) _
  have z2 : (s.opn[k].l.length + 1) * 48 ≤ 140737488355328 := by omega
  have z3 : s.opn[k].l.length ≤ 140737488355327 := by omega
  have z4 : (s.opn[k].l.map Frag.av).take s.opn[k].l.length = s.opn[k].l.map Frag.av := List.take_of_length_le (by simp)
  have hw : IntKind.i64.wrap (((s.opn[k].l.length + 1 : Nat) : Int) - 1) = (s.opn[k].l.length : Int) := by rw [wrap_in (by omega) (by omega)]; omega
  rcases hY with ⟨rfl, hy⟩ | ⟨lY, gY, rfl, hY⟩
  · have hy0 : s.opn[k].l = [] := by simpa using hy
    have hw1 : IntKind.i64.wrap (((1 : Nat) : Int) - 1) = 0 := by rw [wrap_in (by omega) (by omega)]; rfl
    simp (maxSteps := 4000000) only [go_sem, ↓reduceIte, Nat.reduceAdd, Nat.reduceSub, Nat.reduceMul, Nat.reduceEqDiff, Nat.reduceLeDiff, Nat.reduceLT, Nat.reduceBEq, Nat.reduceBNe, Int.reduceToNat, Int.reduceLT, Int.reduceLE, Int.reduceNeg, Int.reduceEq, Int.reduceAdd, Int.reduceSub, Int.reduceMul, Int.reduceTDiv, Int.reduceTMod, reduceCtorEq, t0, t3, t7, hroot, hX, hzl, hgd, hk, hk1, hk2, hrl, hXl, hfl, hlf, hw1]
    have := key (O ++ [AO.cells [i64 s.opn[k].fr, i64 s.opn[k].num, i64 s.opn[k].parts, AV.lsl (O.length + 1) 1 0 1], AO.arr 5 1 [f.av]]) (O.length + 1) 1 (by rw [app_get0, hy0]; rfl) (by rw [app_getk, hy0]; rfl)
      (fun l hl _ => List.getElem?_append_left hl) (by simp) (.inr (by omega))
    rw [hy0] at this
    exact this
  · have hYl := lt_of_get hY
    have nY : ¬ O.length = lY := by omega
    have nY' : ¬ lY = O.length := by omega
    have oY : own lY = 4 + k := hY4 lY (by simp [locs1])
    simp (maxSteps := 4000000) only [go_sem, ↓reduceIte, Nat.reduceAdd, Nat.reduceSub, Nat.reduceMul, Nat.reduceEqDiff, Nat.reduceLeDiff, Nat.reduceLT, Nat.reduceBEq, Nat.reduceBNe, Int.reduceToNat, Int.reduceLT, Int.reduceLE, Int.reduceNeg, Int.reduceEq, Int.reduceAdd, Int.reduceSub, Int.reduceMul, Int.reduceTDiv, Int.reduceTMod, reduceCtorEq, t0, t3, t7, hroot, hX, hzl, hgd, hk, hk1, hk2, hrl, hXl, hfl, hlf, hY, hYl, nY, nY', z1, z2, z3, z4, hw]
    refine ⟨Nat.le_refl _, ?_⟩
    refine key (O.set lY (AO.arr 5 (gY + 1) (s.opn[k].l.map Frag.av ++ [f.av])) ++ [AO.cells [i64 s.opn[k].fr, i64 s.opn[k].num, i64 s.opn[k].parts, AV.lsl lY (gY + 1) 0 (s.opn[k].l.length + 1)]]) lY (gY + 1) ?_ ?_ ?_ (by simp) (.inl oY)
    · rw [app_get0' (by simp)]; rfl
    · rw [List.getElem?_append_left (by simp; exact hYl), List.getElem?_set_self hYl]
    · intro l hl hn
      rw [List.getElem?_append_left (by simp; exact hl), List.getElem?_set_ne (by rintro rfl; exact hn oY)]

theorem Opn.is_eq {o : Opn} {f : Frag} (h : o.is f = true) : o.fr = f.fr ∧ o.num = f.num := by simpa [Opn.is] using h

theorem look8 {O : List AO} {G : List Nat} {lr lf lX gX k : Nat} {D x0 x1 x2 Y : AV} {xs : List AV} {l : List Frag} {f : Frag} (h1 : O[lr]? = some (.cells [.lsl lX gX 0 xs.length, D])) (hX : O[lX]? = some (.arr 4 gX xs)) (hk : k < xs.length) (hx : xs.getD k .any = .agg [x0, x1, x2, Y]) (hY : Row O 5 Y (l.map Frag.av))
    (hlf : O[lf]? = some (.cells [i64 f.fr, i64 f.num, i64 f.part, i64 f.parts, str f.bytes])) (hlen : l.length ≤ 1000) {Q : Post}
    (hyes : l.any (·.part == f.part) = true → Q .ret [(4, str ⟨#[]⟩), (5, boo false), (6, i64 210)] O G) (hno : l.any (·.part == f.part) = false → ∀ i b, Q (.exit 0) [(0, .ref lr 0), (3, .ref lf 0), (7, i64 k), (8, i), (45, b)] O G) :
    loopC (PSem P) pc8_1 Q [(0, .ref lr 0), (3, .ref lf 0), (7, i64 k), (8, i64 0)] O G := by
  refine loopC.of (fun n T O' G' => ∃ i : Nat, T = [(0, .ref lr 0), (3, .ref lf 0), (7, i64 k), (8, i64 i)] ∧ O' = O ∧ G' = G ∧ n + i = l.length ∧ (l.take i).any (·.part == f.part) = false) l.length ⟨0, rfl, rfl, rfl, rfl, by simp⟩ ?_
  rintro n T O' G' ⟨i, rfl, rfl, rfl, hi, hall⟩
  unfold pc8_1
  have hk1 : (k : Int) < (xs.length : Int) := by omega
  have hk2 : (0 : Int) ≤ (k : Int) := by omega
  by_cases hlt : i < l.length
  · have hlt' : (i : Int) < (l.length : Int) := by omega
    have h0 : (0 : Int) ≤ (i : Int) := by omega
    have hw : IntKind.i64.wrap ((i : Int) + 1) = ((i + 1 : Nat) : Int) := by rw [wrap_in (by omega) (by omega)]; rfl
    have hy : (l.map Frag.av).getD i .any = .agg [i64 l[i].fr, i64 l[i].num, i64 l[i].part, i64 l[i].parts, str l[i].bytes] := getD_map _ _ _ hlt
    rcases hY with ⟨rfl, hy0⟩ | ⟨lY, gY, rfl, hY⟩
    · have : l = [] := by simpa using hy0
      subst this; simp at hlt
    · simp (maxSteps := 4000000) only [go_sem, ↓reduceIte, Nat.reduceAdd, Nat.reduceSub, Nat.reduceMul, Nat.reduceEqDiff, Nat.reduceLeDiff, Nat.reduceLT, Nat.reduceBEq, Nat.reduceBNe, Int.reduceToNat, Int.reduceLT, Int.reduceLE, Int.reduceNeg, Int.reduceEq, Int.reduceAdd, Int.reduceSub, Int.reduceMul, Int.reduceTDiv, Int.reduceTMod, reduceCtorEq, h1, hX, hk, hk1, hk2, hx, hY, hlf, hlt', h0, hw, hy, hlt]
      split
      · rename_i he
        exact hyes (by rw [List.any_eq_true]; exact ⟨l[i], List.getElem_mem _, he⟩)
      · rename_i he
        refine loopN.of [(0, .ref lr 0), (3, .ref lf 0), (7, i64 k), (8, i64 ((i + 1 : Nat) : Int))] (by simp (maxSteps := 4000000) only [go_sem, ↓reduceIte, Nat.reduceAdd, Nat.reduceSub, Nat.reduceMul, Nat.reduceEqDiff, Nat.reduceLeDiff, Nat.reduceLT, Nat.reduceBEq, Nat.reduceBNe, Int.reduceToNat, Int.reduceLT, Int.reduceLE, Int.reduceNeg, Int.reduceEq, Int.reduceAdd, Int.reduceSub, Int.reduceMul, Int.reduceTDiv, Int.reduceTMod, reduceCtorEq]) ⟨n - 1, by omega, i + 1, rfl, rfl, rfl, by omega, ?_⟩
        rw [List.take_succ_eq_append_getElem hlt, List.any_append, hall]
        simpa using he
  · have hall' : l.any (·.part == f.part) = false := by rw [List.take_of_length_le (by omega)] at hall; exact hall
    rcases hY with ⟨rfl, hy0⟩ | ⟨lY, gY, rfl, hY⟩
    · have hlt' : ¬ (i : Int) < ((0 : Nat) : Int) := by omega
      simp (maxSteps := 4000000) only [go_sem, ↓reduceIte, Nat.reduceAdd, Nat.reduceSub, Nat.reduceMul, Nat.reduceEqDiff, Nat.reduceLeDiff, Nat.reduceLT, Nat.reduceBEq, Nat.reduceBNe, Int.reduceToNat, Int.reduceLT, Int.reduceLE, Int.reduceNeg, Int.reduceEq, Int.reduceAdd, Int.reduceSub, Int.reduceMul, Int.reduceTDiv, Int.reduceTMod, reduceCtorEq, h1, hX, hk, hk1, hk2, hx, hlf, hlt']
      exact hno hall' _ _
    · have hlt' : ¬ (i : Int) < (l.length : Int) := by omega
      simp (maxSteps := 4000000) only [go_sem, ↓reduceIte, Nat.reduceAdd, Nat.reduceSub, Nat.reduceMul, Nat.reduceEqDiff, Nat.reduceLeDiff, Nat.reduceLT, Nat.reduceBEq, Nat.reduceBNe, Int.reduceToNat, Int.reduceLT, Int.reduceLE, Int.reduceNeg, Int.reduceEq, Int.reduceAdd, Int.reduceSub, Int.reduceMul, Int.reduceTDiv, Int.reduceTMod, reduceCtorEq, h1, hX, hk, hk1, hk2, hx, hY, hlf, hlt']
      exact hno hall' _ _

theorem take8 (hm : P.follows .mixedOrders = true) (h13 : FnAt P 13 pc13 [2] 1) (h14 : FnAt P 14 pc14 [4] 2) (h15 : FnAt P 15 pc15 [4] 2) (h16 : FnAt P 16 pc16 [4] 2) (h : FnAt P 8 pc8 [4,5,6] 2) {O : List AO} {G : List Nat} {lr : Nat} {s : St} {own : Nat → Nat} {N : Nat} (hN : N ≤ 900) (hg : Good N s)
    (hr : RRep O lr s own) (f : Frag) (hf : f.bytes.size ≤ 100) : PCall P 8 [.ref lr 0, f.av] O G fun r O' G' => Left RRep O lr own (s.step f) r O' := by
  refine FnAt.call hm h (Nat.le_refl _) ?_
  have hr0 := hr
  obtain ⟨X, D, Ys, hr⟩ := hr
  have h1 := hr.root
  have h3 := hr.rowD
  have hlr := lt_of_get h1
  unfold pc8 Frag.av
  simp (maxSteps := 4000000) only [go_sem, ↓reduceIte, Nat.reduceAdd, Nat.reduceSub, Nat.reduceMul, Nat.reduceEqDiff, Nat.reduceLeDiff, Nat.reduceLT, Nat.reduceBEq, Nat.reduceBNe, Int.reduceToNat, Int.reduceLT, Int.reduceLE, Int.reduceNeg, Int.reduceEq, Int.reduceAdd, Int.reduceSub, Int.reduceMul, Int.reduceTDiv, Int.reduceTMod, reduceCtorEq]
  refine callP.of (fun _ => right13 hm h13 f) ?_
  simp (maxSteps := 4000000) only [go_sem, ↓reduceIte, Nat.reduceAdd, Nat.reduceSub, Nat.reduceMul, Nat.reduceEqDiff, Nat.reduceLeDiff, Nat.reduceLT, Nat.reduceBEq, Nat.reduceBNe, Int.reduceToNat, Int.reduceLT, Int.reduceLE, Int.reduceNeg, Int.reduceEq, Int.reduceAdd, Int.reduceSub, Int.reduceMul, Int.reduceTDiv, Int.reduceTMod, reduceCtorEq]
  split
  · rename_i hok
    have hok : f.ok = false := by simpa using hok
    have e : s.step f = (s, no 11) := by simp [St.step, hok]
    show Left RRep O lr own (s.step f) _ _
    rw [e]
    exact Left.same hr0
  · rename_i hok
    have hok : f.ok = true := by simpa using hok
    refine callQ.of (fun _ => done14 hm h14 (by rw [List.getElem?_append_left hlr]; exact h1) (h3.frame fun l hl => List.getElem?_append_left (h3.lt l hl)) (by have := hg.don; omega) f) ?_
    simp (maxSteps := 4000000) only [go_sem, ↓reduceIte, Nat.reduceAdd, Nat.reduceSub, Nat.reduceMul, Nat.reduceEqDiff, Nat.reduceLeDiff, Nat.reduceLT, Nat.reduceBEq, Nat.reduceBNe, Int.reduceToNat, Int.reduceLT, Int.reduceLE, Int.reduceNeg, Int.reduceEq, Int.reduceAdd, Int.reduceSub, Int.reduceMul, Int.reduceTDiv, Int.reduceTMod, reduceCtorEq]
    split
    · rename_i hd
      have e : s.step f = (s, no 210) := by simp only [St.step, hok, hd]; simp
      show Left RRep O lr own (s.step f) _ _
      rw [e]
      exact Left.same hr0
    · rename_i hd
      have hd : s.don.contains (f.fr, f.num) = false := by simpa using hd
      have hlX : ∀ i (h : i < s.opn.length), ∃ y, (List.zipWith Opn.hd s.opn Ys).getD i .any = .agg [i64 s.opn[i].fr, i64 s.opn[i].num, i64 s.opn[i].parts, y] := by
        intro i h
        rw [List.getD_eq_getElem?_getD, List.getElem?_eq_getElem (by simp [hr.len, h]), List.getElem_zipWith]
        exact ⟨_, rfl⟩
      refine callQ.of (fun _ => find15 hm h15 (xs := List.zipWith Opn.hd s.opn Ys) (by rw [List.getElem?_append_left hlr]; exact h1) (hr.rowX.frame fun l hl => List.getElem?_append_left (hr.rowX.lt l hl)) (by simp [hr.len]) hlX (by have := hg.len; omega) f) ?_
      cases hfd : s.opn.findIdx? (·.is f) with
      | some k =>
        have hk : k < s.opn.length := (List.findIdx?_eq_some_iff_getElem.1 hfd).1
        have e1 : fnd s.opn f = (k : Int) := by unfold fnd; rw [hfd]
        have hk0 : (0 : Int) ≤ (k : Int) := by omega
        have hk1 : (k : Int) < (s.opn.length : Int) := by omega
        have hog := hg.each _ (List.getElem_mem hk)
        have hof := Opn.is_eq (List.findIdx?_eq_some_iff_getElem.1 hfd).2.1
        obtain ⟨lX, gX, rfl, hX⟩ : ∃ lX gX, X = .lsl lX gX 0 s.opn.length ∧ O[lX]? = some (.arr 4 gX (List.zipWith Opn.hd s.opn Ys)) := by
          rcases hr.rowX with ⟨rfl, hx⟩ | ⟨lX, gX, rfl, hX⟩
          · have := congrArg List.length hx
            simp [hr.len] at this; rw [this] at hk; simp at hk
          · exact ⟨lX, gX, by simp [hr.len], hX⟩
        have hXl := lt_of_get hX
        have hzl : (List.zipWith Opn.hd s.opn Ys).length = s.opn.length := by simp [hr.len]
        have hgd : (List.zipWith Opn.hd s.opn Ys).getD k .any = .agg [i64 s.opn[k].fr, i64 s.opn[k].num, i64 s.opn[k].parts, Ys.getD k .any] := by
          rw [List.getD_eq_getElem?_getD, List.getElem?_eq_getElem (by omega), List.getElem_zipWith]
          have : Ys.getD k .any = Ys[k]'(by have := hr.len; omega) := by rw [List.getD_eq_getElem?_getD, List.getElem?_eq_getElem (by have := hr.len; omega)]; rfl
          rw [this]; rfl
        simp (maxSteps := 4000000) only [go_sem, ↓reduceIte, Nat.reduceAdd, Nat.reduceSub, Nat.reduceMul, Nat.reduceEqDiff, Nat.reduceLeDiff, Nat.reduceLT, Nat.reduceBEq, Nat.reduceBNe, Int.reduceToNat, Int.reduceLT, Int.reduceLE, Int.reduceNeg, Int.reduceEq, Int.reduceAdd, Int.reduceSub, Int.reduceMul, Int.reduceTDiv, Int.reduceTMod, reduceCtorEq, e1, hk0, h1, hlr, hX, hXl, hk1, hzl, hgd, hk]
        have hsome : s.opn[k]? = some s.opn[k] := List.getElem?_eq_getElem hk
        split
        · rename_i hp
          have e : s.step f = (s, no 11) := by
            have hp : s.opn[k].parts ≠ f.parts := by simpa using hp
            simp only [St.step, hok, hd, hfd, hsome]; simp [hp]
          show Left RRep O lr own (s.step f) _ _
          rw [e]
          exact Left.same hr0
        · rename_i hp
          have hp : s.opn[k].parts = f.parts := by simpa using hp
          have hfew := hog.few
          have hp2 := hog.parts2
          have hr1 : RAt (O ++ [AO.cells [i64 f.fr, i64 f.num, i64 f.part, i64 f.parts, str f.bytes]]) lr s own (.lsl lX gX 0 s.opn.length) D Ys :=
            ⟨by rw [List.getElem?_append_left hlr]; exact h1, hr.rowX.frame fun l hl => List.getElem?_append_left (hr.rowX.lt l hl), hr.rowD.frame fun l hl => List.getElem?_append_left (hr.rowD.lt l hl), hr.len, fun i hi => (hr.rowY i hi).frame fun l hl => List.getElem?_append_left ((hr.rowY i hi).lt l hl), hr.own1, hr.own2, hr.own3, hr.own4, fun l hl => by have := hr.lt l hl; simp; omega⟩
          have hof0 : own O.length = 0 := by
            apply Classical.byContradiction
            intro hn; have := hr.lt _ hn; omega
          refine look8 (xs := List.zipWith Opn.hd s.opn Ys) (by rw [hzl]; exact hr1.root) (by rw [List.getElem?_append_left hXl]; exact hX) (by rw [hzl]; exact hk) hgd (hr1.rowY k hk) app_get0 (by omega) ?_ ?_
          · intro hany
            have e : s.step f = (s, no 210) := by simp only [St.step, hok, hd, hfd, hsome, hp, hany]; simp
            simp (maxSteps := 4000000) only [go_sem, ↓reduceIte, Nat.reduceAdd, Nat.reduceSub, Nat.reduceMul, Nat.reduceEqDiff, Nat.reduceLeDiff, Nat.reduceLT, Nat.reduceBEq, Nat.reduceBNe, Int.reduceToNat, Int.reduceLT, Int.reduceLE, Int.reduceNeg, Int.reduceEq, Int.reduceAdd, Int.reduceSub, Int.reduceMul, Int.reduceTDiv, Int.reduceTMod, reduceCtorEq]
            show Left RRep O lr own (s.step f) _ _
            rw [e]
            exact Left.same hr0
          · intro hany i b
            have e : s.step f = put8 s k s.opn[k] f := by simp only [St.step, hok, hd, hfd, hsome, hp, hany]; simp
            simp (maxSteps := 4000000) only [go_sem, ↓reduceIte, Nat.reduceAdd, Nat.reduceSub, Nat.reduceMul, Nat.reduceEqDiff, Nat.reduceLeDiff, Nat.reduceLT, Nat.reduceBEq, Nat.reduceBNe, Int.reduceToNat, Int.reduceLT, Int.reduceLE, Int.reduceNeg, Int.reduceEq, Int.reduceAdd, Int.reduceSub, Int.reduceMul, Int.reduceTDiv, Int.reduceTMod, reduceCtorEq]
            rw [e]
            refine pe_mono (PSem.cmono P) ?_ (mid8 hm h16 hr1 hk hof.1 hof.2 (by omega) (ins_bytes (fun x hx => (hog.each x hx).2.2.2) hf) (by have := hg.don; omega) (by have := hg.len; omega) app_get0 hof0 rfl rfl rfl)
            rintro ex T O' G' hq
            cases ex <;> first | exact hq | skip
            all_goals exact Left.trans hq (fun l hl hn => ⟨List.getElem?_append_left hl, hn⟩) (by simp)
      | none =>
        have e1 : fnd s.opn f = -1 := by unfold fnd; rw [hfd]
        have hln : IntKind.i64.wrap (((s.opn.length + 1 : Nat) : Int) - 1) = (s.opn.length : Int) := by have := hg.len; rw [wrap_in (by omega) (by omega)]; omega
        have hzl : (List.zipWith Opn.hd s.opn Ys).length = s.opn.length := by simp [hr.len]
        have hof0 : own O.length = 0 := by
          apply Classical.byContradiction
          intro hn; have := hr.lt _ hn; omega
        -- the new frame
        let o : Opn := ⟨f.fr, f.num, f.parts, []⟩
        let s1 : St := ⟨s.opn ++ [o], s.don⟩
        have hzip : List.zipWith Opn.hd (s.opn ++ [o]) (Ys ++ [.sl [] .full]) = List.zipWith Opn.hd s.opn Ys ++ [AV.agg [i64 f.fr, i64 f.num, i64 f.parts, .sl [] .full]] := by
          rw [List.zipWith_append hr.len.symm]; rfl
        have hkk : s.opn.length < s1.opn.length := by simp [s1]
        have hok1 : s1.opn[s.opn.length] = o := by simp [s1]
        have e : s.opn.length < 50 → s.step f = put8 s1 s.opn.length o f := by
          intro hlt
          simp only [St.step, hok, hd, hfd]
          simp [show ¬ 50 ≤ s.opn.length by omega, s1, o]
        -- what follows
        have next : s.opn.length < 50 → ∀ (O1 : List AO) (own1 : Nat → Nat) (X1 : AV), O1[lr]? = some (.cells [X1, D]) → Row O1 4 X1 (List.zipWith Opn.hd s1.opn (Ys ++ [.sl [] .full])) → (∀ l, l < O.length → l ≠ lr → l ∉ locs1 X → O1[l]? = O[l]?) → O.length < O1.length →
            O1[O.length]? = some (.cells [i64 f.fr, i64 f.num, i64 f.part, i64 f.parts, str f.bytes]) → (∀ l, l < O.length → own1 l = own l) → (∀ l ∈ locs1 X1, own1 l = 2) → (∀ l, O.length ≤ l → own1 l ≠ 0 → O.length < l ∧ l < O1.length) → ∀ T, get T 0 = .ref lr 0 → get T 3 = .ref O.length 0 → get T 7 = i64 s.opn.length →
            pe (PSem P) pc8_2 (RetK [4, 5, 6] fun r O' G' => Left RRep O lr own (s.step f) r O') T O1 G := by
          intro hlt O1 own1 X1 c1 c2 c3 c4 c5 c6 c7 c8 T t0 t3 t7
          have hr1 : RAt O1 lr s1 own1 X1 D (Ys ++ [.sl [] .full]) := by
            have keep : ∀ l, own l ≠ 0 → own l ≠ 1 → own l ≠ 2 → O1[l]? = O[l]? := fun l h0 q1 q2 => c3 l (hr.lt l h0) (by intro e; rw [e] at q1; exact q1 hr.own1) (fun hl => q2 (hr.own2 l hl))
            refine ⟨c1, c2, hr.rowD.frame fun l hl => keep l ?_ ?_ ?_, by simp [s1, hr.len], ?_, (c6 lr hlr).trans hr.own1, c7, fun l hl => (c6 l (hr.rowD.lt l hl)).trans (hr.own3 l hl), ?_, ?_⟩
            · rw [hr.own3 l hl]; omega
            · rw [hr.own3 l hl]; omega
            · rw [hr.own3 l hl]; omega
            · intro i hi
              simp only [s1, List.length_append, List.length_singleton] at hi
              by_cases ei : i < s.opn.length
              · rw [show (Ys ++ [AV.sl [] .full]).getD i .any = Ys.getD i .any by rw [List.getD_eq_getElem?_getD, List.getElem?_append_left (by rw [hr.len]; exact ei), ← List.getD_eq_getElem?_getD]]
                rw [show s1.opn[i] = s.opn[i] from List.getElem_append_left ei]
                refine (hr.rowY i ei).frame fun l hl => keep l ?_ ?_ ?_ <;> rw [hr.own4 i ei l hl] <;> omega
              · obtain rfl : i = s.opn.length := by omega
                rw [show (Ys ++ [AV.sl [] .full]).getD s.opn.length .any = .sl [] .full by rw [List.getD_eq_getElem?_getD, ← hr.len, List.getElem?_concat_length]; rfl]
                exact .inl ⟨rfl, by simp [hok1, o]⟩
            · intro i hi l hl
              simp only [s1, List.length_append, List.length_singleton] at hi
              by_cases ei : i < s.opn.length
              · rw [show (Ys ++ [AV.sl [] .full]).getD i .any = Ys.getD i .any by rw [List.getD_eq_getElem?_getD, List.getElem?_append_left (by rw [hr.len]; exact ei), ← List.getD_eq_getElem?_getD]] at hl
                exact (c6 l ((hr.rowY i ei).lt l hl)).trans (hr.own4 i ei l hl)
              · obtain rfl : i = s.opn.length := by omega
                rw [show (Ys ++ [AV.sl [] .full]).getD s.opn.length .any = .sl [] .full by rw [List.getD_eq_getElem?_getD, ← hr.len, List.getElem?_concat_length]; rfl] at hl
                simp [locs1] at hl
            · intro l hn
              rcases Nat.lt_or_ge l O.length with h | h
              · omega
              · exact (c8 l h hn).2
          have hof1 : own1 O.length = 0 := by
            apply Classical.byContradiction
            intro hn; have := (c8 _ (Nat.le_refl _) hn).1; omega
          have hm8 := mid8 hm h16 (G := G) hr1 hkk (f := f) (by rw [hok1]) (by rw [hok1]) (by rw [hok1]; simp [o]) (by rw [hok1]; exact ins_bytes (fun x hx => by simp [o] at hx) hf) (by have := hg.don; simp [s1]; omega) (by have := hg.len; simp [s1]; omega) c5 hof1 t0 t3 t7
          rw [hok1] at hm8
          rw [e hlt]
          refine pe_mono (PSem.cmono P) ?_ hm8
          rintro ex T O' G' hq
          cases ex <;> first | exact hq | skip
          all_goals exact Left.trans hq (fun l hl hn => ⟨c3 l hl (by rintro rfl; rw [hr.own1] at hn; omega) (fun h => by rw [hr.own2 l h] at hn; omega), (c6 l hl).trans hn⟩) (by omega)
        by_cases hfull : 50 ≤ s.opn.length
        · have e : s.step f = (s, no 211) := by simp only [St.step, hok, hd, hfd]; simp [hfull]
          have hfull' : (50 : Int) ≤ (s.opn.length : Int) := by omega
          rcases hr.rowX with ⟨rfl, hx⟩ | ⟨lX, gX, rfl, hX⟩
          · have := congrArg List.length hx
            simp [hr.len] at this; simp [this] at hfull
          · have hlX2 := lt_of_get hX
            rw [hzl] at h1
            simp (maxSteps := 4000000) only [go_sem, ↓reduceIte, Nat.reduceAdd, Nat.reduceSub, Nat.reduceMul, Nat.reduceEqDiff, Nat.reduceLeDiff, Nat.reduceLT, Nat.reduceBEq, Nat.reduceBNe, Int.reduceToNat, Int.reduceLT, Int.reduceLE, Int.reduceNeg, Int.reduceEq, Int.reduceAdd, Int.reduceSub, Int.reduceMul, Int.reduceTDiv, Int.reduceTMod, reduceCtorEq, e1, h1, hlr, hX, hlX2, hzl, hfull']
            show Left RRep O lr own (s.step f) _ _
            rw [e]
            exact Left.same hr0
        · have hfull' : ¬ (50 : Int) ≤ (s.opn.length : Int) := by omega
          have hlt : s.opn.length < 50 := by omega
          rcases hr.rowX with ⟨rfl, hx⟩ | ⟨lX, gX, rfl, hX⟩
          · have hs0 : s.opn.length = 0 := by have := congrArg List.length hx; simpa [hr.len] using this
            have hf0 : ¬ (50 : Int) ≤ ((0 : Nat) : Int) := by omega
            have hw1 : IntKind.i64.wrap (((1 : Nat) : Int) - 1) = 0 := by rw [wrap_in (by omega) (by omega)]; rfl
            simp (maxSteps := 4000000) only [go_sem, ↓reduceIte, Nat.reduceAdd, Nat.reduceSub, Nat.reduceMul, Nat.reduceEqDiff, Nat.reduceLeDiff, Nat.reduceLT, Nat.reduceBEq, Nat.reduceBNe, Int.reduceToNat, Int.reduceLT, Int.reduceLE, Int.reduceNeg, Int.reduceEq, Int.reduceAdd, Int.reduceSub, Int.reduceMul, Int.reduceTDiv, Int.reduceTMod, reduceCtorEq, e1, h1, hlr, hf0, hw1]
            refine next hlt _ (fun l => if l = O.length + 1 then 2 else own l) (.lsl (O.length + 1) 1 0 1) ?_ ?_ ?_ ?_ ?_ ?_ ?_ ?_ _ rfl rfl (by rw [hs0]; rfl)
            · rw [List.getElem?_append_left (by simp; exact hlr), List.getElem?_set_self hlr]
            · refine .inr ⟨O.length + 1, 1, ?_, ?_⟩
              · simp [s1, hr.len, hs0]
              · rw [app_getk' (by simp)]
                show _ = some (AO.arr 4 1 (List.zipWith Opn.hd (s.opn ++ [o]) (Ys ++ [.sl [] .full])))
                rw [hzip, hx]; rfl
            · intro l hl h1 h2
              rw [List.getElem?_append_left (by simp; exact hl), List.getElem?_set_ne (Ne.symm h1)]
            · simp
            · rw [app_get0' (by simp)]; rfl
            · intro l hl; exact if_neg (by omega)
            · intro l hl; simp [locs1] at hl; simp [hl]
            · intro l hl hn
              by_cases el : l = O.length + 1
              · subst el; simp
              · simp only [if_neg el] at hn; have := hr.lt l hn; omega
          · have hlX2 := lt_of_get hX
            have nXr : lX ≠ lr := by rintro rfl; have := hr.own1; have := hr.own2 lX (by simp [locs1]); omega
            have hsz : allSz 4 (List.zipWith Opn.hd s.opn Ys) := by
              intro x hx
              obtain ⟨i, hi, rfl⟩ := List.getElem_of_mem hx
              rw [List.getElem_zipWith]; rfl
            have z2 : (s.opn.length + 1) * 48 ≤ 140737488355328 := by omega
            have z3 : s.opn.length ≤ 140737488355327 := by omega
            have z4 : (List.zipWith Opn.hd s.opn Ys).take s.opn.length = List.zipWith Opn.hd s.opn Ys := List.take_of_length_le (by omega)
            rw [hzl] at h1
            simp (maxSteps := 4000000) only [go_sem, ↓reduceIte, Nat.reduceAdd, Nat.reduceSub, Nat.reduceMul, Nat.reduceEqDiff, Nat.reduceLeDiff, Nat.reduceLT, Nat.reduceBEq, Nat.reduceBNe, Int.reduceToNat, Int.reduceLT, Int.reduceLE, Int.reduceNeg, Int.reduceEq, Int.reduceAdd, Int.reduceSub, Int.reduceMul, Int.reduceTDiv, Int.reduceTMod, reduceCtorEq, e1, h1, hlr, hX, hlX2, hzl, hfull', hsz, z2, z3, z4, nXr, Ne.symm nXr, hln]
            refine ⟨Nat.le_refl _, ?_⟩
            refine next hlt _ own (.lsl lX (gX + 1) 0 (s.opn.length + 1)) ?_ ?_ ?_ ?_ ?_ ?_ ?_ ?_ _ rfl rfl rfl
            · rw [List.getElem?_append_left (by simp; exact hlr), List.getElem?_set_self (by simp; exact hlr)]
            · refine .inr ⟨lX, gX + 1, ?_, ?_⟩
              · simp [s1, hr.len]
              · rw [List.getElem?_append_left (by simp; exact hlX2), List.getElem?_set_ne (Ne.symm nXr), List.getElem?_set_self hlX2]
                show _ = some (AO.arr 4 (gX + 1) (List.zipWith Opn.hd (s.opn ++ [o]) (Ys ++ [.sl [] .full])))
                rw [hzip]
            · intro l hl h1 h2
              simp [locs1] at h2
              rw [List.getElem?_append_left (by simp; exact hl), List.getElem?_set_ne (Ne.symm h1), List.getElem?_set_ne (Ne.symm h2)]
            · simp
            · rw [app_get0' (by simp)]; rfl
            · intro l hl; rfl
            · intro l hl; simp [locs1] at hl; subst hl; exact hr.own2 l (by simp [locs1])
            · intro l hl hn; have := hr.lt l hn; omega
end
end Go.VL.Try
