/- Value logic, part 10: what is held against each other; maps. -/
import Derived.Test.YtohccdodnpkpfaaVl9
set_option linter.unusedVariables false
set_option linter.unusedSimpArgs false
namespace Go.VL
open Go.RowKit

theorem leavesEq_split : ∀ {l1 l2 : List Leaf} {xs ys : List Value} {r : Bool}, leavesEq (l1 ++ l2) xs ys = some r →
    ∃ r1 r2, leavesEq l1 (xs.take l1.length) (ys.take l1.length) = some r1 ∧ leavesEq l2 (xs.drop l1.length) (ys.drop l1.length) = some r2 ∧ r = (r1 && r2) ∧ l1.length ≤ xs.length ∧ l1.length ≤ ys.length
  | [], l2, xs, ys, r, h => ⟨true, r, by simp [leavesEq], by simpa using h, by simp, by simp, by simp⟩
  | l :: l1, l2, [], ys, r, h => by simp [leavesEq] at h
  | l :: l1, l2, x :: xs, [], r, h => by simp [leavesEq] at h
  | l :: l1, l2, x :: xs, y :: ys, r, h => by
    simp only [List.cons_append, leavesEq] at h
    split at h
    · rename_i a b h1 h2
      injection h with h; subst h
      obtain ⟨r1, r2, k1, k2, k3, k4, k5⟩ := leavesEq_split h2
      refine ⟨a && r1, r2, by simp [leavesEq, h1, k1], by simpa using k2, by rw [k3, Bool.and_assoc], by simpa using k4, by simpa using k5⟩
    · simp at h
theorem leavesEq_len : ∀ {ls : List Leaf} {xs ys : List Value} {r : Bool}, leavesEq ls xs ys = some r → xs.length = ls.length ∧ ys.length = ls.length
  | [], [], [], _, _ => ⟨rfl, rfl⟩
  | [], [], _ :: _, _, h => by simp [leavesEq] at h
  | [], _ :: _, _, _, h => by simp [leavesEq] at h
  | _ :: _, [], _, _, h => by simp [leavesEq] at h
  | _ :: _, _ :: _, [], _, h => by simp [leavesEq] at h
  | l :: ls, x :: xs, y :: ys, r, h => by
    simp only [leavesEq] at h
    split at h
    · rename_i a b h1 h2
      obtain ⟨k1, k2⟩ := leavesEq_len h2
      simp [k1, k2]
    · simp at h

section
variable {P : Program}
theorem run_part_of {t : TypeId} {n : Nat} {ag : Bool} (hn : szOf P t = some n) (ha : agOf P t = some ag) (w : World) (vs : List Value) (off : Nat) (hok : off + (if ag then n else 1) ≤ vs.length) :
    (part t vs.toArray off).run P w = .ok (mkv ag vs off (if ag then n else 1)) w := by
  unfold part
  simp only [Sem.run_bind, run_isAgg_of ha, Result.andThen_ok]
  cases ag
  · simp only [Bool.false_eq_true, if_false] at hok ⊢
    have hv : vs.toArray[off]? = some (vs.getD off undef) := by
      rw [List.getD_eq_getElem?_getD]; simp; rw [List.getElem?_eq_getElem (by omega)]; simp
    simp [hv, mkv]
  · simp only [if_true] at hok ⊢
    simp [run_sizeOf_of hn, mkv, List.extract_eq_take_drop, List.take_drop]

/-- Values of the shape that a type asks. -/
def Shape (ag : Bool) (x : Value) : Prop := ag = true → ∃ xs : List Value, x = .agg xs.toArray
theorem shape_mkv (ag : Bool) (vs : List Value) (off n : Nat) : Shape ag (mkv ag vs off n) := fun h => by subst h; exact ⟨_, rfl⟩
theorem cellsL_mkv {ag : Bool} {vs : List Value} {off n : Nat} (h1 : ag = false → n = 1) (hf : off + n ≤ vs.length) (hone : ag = false → (vs.getD off undef).oneCell' = true) : cellsL (mkv ag vs off n) = (vs.drop off).take n := by
  cases ag
  · obtain rfl := h1 rfl
    have := hone rfl
    simp only [mkv, Bool.false_eq_true, if_false]
    have e : (vs.drop off).take 1 = [vs.getD off undef] := by
      rw [List.getD_eq_getElem?_getD, List.getElem?_eq_getElem (by omega), List.drop_eq_getElem_cons (by omega : off < vs.length)]
      rfl
    rw [e]
    generalize vs.getD off undef = u at *
    cases u <;> simp_all [cellsL, Value.oneCell']
  · simp [mkv, cellsL]

theorem leafEq_one {l : Leaf} {a b : Value} {r : Bool} (h : leafEq l a b = some r) : a.oneCell' = true ∧ b.oneCell' = true := by
  unfold leafEq at h
  split at h <;> simp [Value.oneCell'] at h ⊢

def EqOK (P : Program) (D : Nat) (t : TypeId) (ag : Bool) (ls : List Leaf) : Prop :=
  ∀ (w : World) (x y : Value) (r : Bool), Shape ag x → Shape ag y → (ag = false → x.oneCell' = true ∧ y.oneCell' = true) → leavesEq ls (cellsL x) (cellsL y) = some r → (Op.equalIn D t x y).run P w = .ok r w

theorem head_one {l : Leaf} {ls : List Leaf} {xs ys : List Value} {r : Bool} (h : leavesEq (l :: ls) xs ys = some r) : (xs.getD 0 undef).oneCell' = true ∧ (ys.getD 0 undef).oneCell' = true := by
  cases xs with
  | nil => simp [leavesEq] at h
  | cons x xs =>
    cases ys with
    | nil => simp [leavesEq] at h
    | cons y ys =>
      simp only [leavesEq] at h
      split at h
      · rename_i a b h1 h2; simpa using leafEq_one h1
      · simp at h

theorem eq_fields {F : TypeId → Option (Bool × List Leaf)} {D : Nat} (IH : ∀ t ag ls, F t = some (ag, ls) → EqOK P D t ag ls) (xs ys : List Value) : ∀ (fs : List Field) (off : Nat) (ls : List Leaf) (r : Bool),
    off ≤ xs.length → off ≤ ys.length → flatFs P F fs off = some ls → leavesEq ls (xs.drop off) (ys.drop off) = some r → ∀ w, (Op.eqFields D xs.toArray ys.toArray fs).run P w = .ok r w
  | [], off, ls, r, _, _, hf, he, w => by
    simp [flatFs] at hf; subst hf
    have := leavesEq_len he
    have e1 : xs.drop off = [] := List.eq_nil_of_length_eq_zero this.1
    have e2 : ys.drop off = [] := List.eq_nil_of_length_eq_zero this.2
    rw [e1, e2] at he
    simp [leavesEq] at he; subst he
    simp [Op.eqFields]
  | f :: fs, off, ls, r, hbx, hby, hf, he, w => by
    simp only [flatFs] at hf
    split at hf
    · rename_i ag l1 hF
      split at hf
      · rename_i hc
        obtain ⟨rfl, c2, c3, c4, c5⟩ := hc
        simp at hf
        obtain ⟨l2, hf2, rfl⟩ := hf
        obtain ⟨r1, r2, k1, k2, rfl, k4, k5⟩ := leavesEq_split he
        simp only [List.drop_drop] at k2
        simp at k4 k5
        have hone : ag = false → l1.length = 1 := fun h => by rcases c5 with h' | h' <;> simp_all
        have hnx : f.offset + (if ag then l1.length else 1) ≤ xs.length := by cases ag <;> simp_all <;> omega
        have hny : f.offset + (if ag then l1.length else 1) ≤ ys.length := by cases ag <;> simp_all <;> omega
        have heq : (if ag then l1.length else 1) = l1.length := by cases ag <;> simp_all
        have ho : ag = false → (xs.getD f.offset undef).oneCell' = true ∧ (ys.getD f.offset undef).oneCell' = true := fun h => by
          obtain ⟨l, rfl⟩ : ∃ l, l1 = [l] := by
            have := hone h
            match l1, this with
            | [l], _ => exact ⟨l, rfl⟩
          have := head_one k1
          simpa [List.getD_eq_getElem?_getD, List.getElem?_take, List.getElem?_drop] using this
        have p1 := run_part_of c3 c4 w xs f.offset hnx
        have p2 := run_part_of c3 c4 w ys f.offset hny
        rw [heq] at p1 p2 hnx hny
        have h3 := IH f.type ag l1 hF w _ _ r1 (shape_mkv ag xs f.offset l1.length) (shape_mkv ag ys f.offset l1.length) (fun h => by
          obtain ⟨o1, o2⟩ := ho h
          subst h
          simpa [mkv] using ⟨o1, o2⟩) (by
          rw [cellsL_mkv hone hnx (fun h => (ho h).1), cellsL_mkv hone hny (fun h => (ho h).2)]
          exact k1)
        have h4 := eq_fields IH xs ys fs (f.offset + l1.length) l2 r2 (by omega) (by omega) hf2 k2 w
        simp only [Op.eqFields, c2, ne_eq, not_false_eq_true, if_true, Sem.run_bind, p1, p2, Result.andThen_ok, h3]
        cases r1
        · simp
        · simp [h4]
      · simp at hf
    · simp at hf

theorem eq_items {e : TypeId} {D : Nat} {ag : Bool} {l1 : List Leaf} (IH : EqOK P D e ag l1) (c3 : szOf P e = some l1.length) (c4 : agOf P e = some ag) (c5 : ag = true ∨ l1.length = 1) (xs ys : List Value) : ∀ (n k : Nat) (r : Bool), k * l1.length ≤ xs.length → k * l1.length ≤ ys.length →
    leavesEq (List.replicate n l1).flatten (xs.drop (k * l1.length)) (ys.drop (k * l1.length)) = some r → ∀ w, (Op.eqItems D e l1.length xs.toArray ys.toArray (List.range' k n)).run P w = .ok r w
  | 0, k, r, _, _, he, w => by
    simp [leavesEq] at he
    have := leavesEq_len (ls := []) he
    have e1 : xs.drop (k * l1.length) = [] := List.eq_nil_of_length_eq_zero this.1
    have e2 : ys.drop (k * l1.length) = [] := List.eq_nil_of_length_eq_zero this.2
    rw [e1, e2] at he
    simp [leavesEq] at he; subst he
    simp [Op.eqItems]
  | n + 1, k, r, hbx, hby, he, w => by
    rw [List.replicate_succ, List.flatten_cons] at he
    obtain ⟨r1, r2, k1, k2, rfl, k4, k5⟩ := leavesEq_split he
    simp only [List.drop_drop] at k2
    simp at k4 k5
    have hone : ag = false → l1.length = 1 := fun h => by rcases c5 with h' | h' <;> simp_all
    have heq : (if ag then l1.length else 1) = l1.length := by cases ag <;> simp_all
    by_cases h0 : l1.length = 0
    · have hag : ag = true := by rcases c5 with h | h; exact h; omega
      subst hag
      have p1 := run_part_of c3 c4 w xs (k * l1.length) (by simp [h0])
      have p2 := run_part_of c3 c4 w ys (k * l1.length) (by simp [h0])
      have h3 := IH w _ _ r1 (shape_mkv true xs (k * l1.length) l1.length) (shape_mkv true ys (k * l1.length) l1.length) (fun h => by cases h) (by
        simpa [mkv, cellsL] using k1)
      have h4 := eq_items IH c3 c4 c5 xs ys n (k + 1) r2 (by rw [Nat.succ_mul]; omega) (by rw [Nat.succ_mul]; omega) (by rw [Nat.succ_mul]; exact k2) w
      simp only [if_true] at p1 p2
      simp only [List.range'_succ, Op.eqItems, Sem.run_bind, p1, p2, Result.andThen_ok, h3]
      cases r1
      · simp
      · simp [h4]
    have hnx : k * l1.length + l1.length ≤ xs.length := by omega
    have hny : k * l1.length + l1.length ≤ ys.length := by omega
    have ho : ag = false → (xs.getD (k * l1.length) undef).oneCell' = true ∧ (ys.getD (k * l1.length) undef).oneCell' = true := fun h => by
      obtain ⟨l, rfl⟩ : ∃ l, l1 = [l] := by
        have := hone h
        match l1, this with
        | [l], _ => exact ⟨l, rfl⟩
      have := head_one k1
      simpa [List.getD_eq_getElem?_getD, List.getElem?_take, List.getElem?_drop] using this
    have p1 := run_part_of c3 c4 w xs (k * l1.length) (by rw [heq]; exact hnx)
    have p2 := run_part_of c3 c4 w ys (k * l1.length) (by rw [heq]; exact hny)
    rw [heq] at p1 p2
    have h3 := IH w _ _ r1 (shape_mkv ag xs (k * l1.length) l1.length) (shape_mkv ag ys (k * l1.length) l1.length) (fun h => by
      obtain ⟨o1, o2⟩ := ho h
      subst h
      simpa [mkv] using ⟨o1, o2⟩) (by
      rw [cellsL_mkv hone hnx (fun h => (ho h).1), cellsL_mkv hone hny (fun h => (ho h).2)]
      exact k1)
    have h4 := eq_items IH c3 c4 c5 xs ys n (k + 1) r2 (by rw [Nat.succ_mul]; omega) (by rw [Nat.succ_mul]; omega) (by rw [Nat.succ_mul]; exact k2) w
    simp only [List.range'_succ, Op.eqItems, Sem.run_bind, p1, p2, Result.andThen_ok, h3]
    cases r1
    · simp
    · simp [h4]

theorem info_of_szOf {t : TypeId} {n : Nat} (h : szOf P t = some n) : ∃ i, P.info? t = some i ∧ i.size = n := by
  unfold szOf at h; simpa using h

theorem leaf_of {l : Leaf} {x y : Value} {r : Bool} (hx : x.oneCell' = true) (hy : y.oneCell' = true) (h : leavesEq [l] (cellsL x) (cellsL y) = some r) : leafEq l x y = some r := by
  have ex : cellsL x = [x] := by cases x <;> simp_all [cellsL, Value.oneCell']
  have ey : cellsL y = [y] := by cases y <;> simp_all [cellsL, Value.oneCell']
  rw [ex, ey] at h
  simp only [leavesEq] at h
  cases hl : leafEq l x y with
  | none => simp [hl] at h
  | some a => simpa [hl] using h

theorem flat_eq : ∀ (d : Nat) (t : TypeId) (ag : Bool) (ls : List Leaf), flatT P d t = some (ag, ls) → ∀ D, EqOK P (D + d) t ag ls
  | 0, t, ag, ls, h, D => by simp [flatT] at h
  | d + 1, t, ag, ls, h, D => by
    intro w x y r sx sy so he
    rw [← Nat.add_assoc]
    unfold flatT at h
    split at h
    · rename_i hu
      simp at h; obtain ⟨rfl, rfl⟩ := h
      have hl := leaf_of (so rfl).1 (so rfl).2 he
      unfold leafEq at hl
      split at hl <;> simp at hl
      · rename_i hk; cases hk
      · subst hl; simp [Op.equalIn, run_underlying hu]
      · rename_i hk; cases hk
    · rename_i k hu
      simp at h; obtain ⟨rfl, rfl⟩ := h
      have hl := leaf_of (so rfl).1 (so rfl).2 he
      unfold leafEq at hl
      split at hl <;> simp at hl
      · obtain ⟨⟨rfl, rfl⟩, rfl⟩ := hl
        simp [Op.equalIn, run_underlying hu]
      · rename_i hk; cases hk
      · rename_i hk; cases hk
    · rename_i hu
      simp at h; obtain ⟨rfl, rfl⟩ := h
      have hl := leaf_of (so rfl).1 (so rfl).2 he
      unfold leafEq at hl
      split at hl <;> simp at hl
      · rename_i hk; cases hk
      · rename_i hk; cases hk
      · subst hl; simp [Op.equalIn, run_underlying hu]
    · rename_i fs hu
      split at h
      · simp at h
      · rename_i hs
        simp at h
        obtain ⟨hfl, rfl⟩ := h
        obtain ⟨xs, rfl⟩ := sx rfl
        obtain ⟨ys, rfl⟩ := sy rfl
        have hfo : P.fieldsOf t = fs := by simp [Program.fieldsOf, hu]
        rw [run_equalIn_struct w (D + d) t xs.toArray ys.toArray (by rw [hfo]; exact hu) (by simpa using hs), hfo]
        exact eq_fields (fun t' ag' ls' h' => flat_eq d t' ag' ls' h' D) xs ys fs.toList 0 ls r (Nat.zero_le _) (Nat.zero_le _) hfl (by simpa [cellsL] using he) w
    · rename_i n e hu
      split at h
      · rename_i ag' l1 hF
        split at h
        · rename_i hc
          simp at h
          obtain ⟨rfl, rfl⟩ := h
          obtain ⟨c3, c4, c5⟩ := hc
          obtain ⟨xs, rfl⟩ := sx rfl
          obtain ⟨ys, rfl⟩ := sy rfl
          obtain ⟨i, hi, hsz⟩ := info_of_szOf c3
          have hco : P.cellsOf e = l1.length := by simp [Program.cellsOf, hi, hsz]
          rw [run_equalIn_array w (D + d) xs.toArray ys.toArray hu hi, hco, List.range_eq_range']
          exact eq_items (flat_eq d e ag' l1 hF D) c3 c4 c5 xs ys n 0 r (by simp) (by simp) (by simpa [cellsL] using he) w
        · simp at h
      · simp at h
    · simp at h
end
end Go.VL
