/- Value logic, part 11: comparisons and maps. -/
import Derived.Test.YtohccdodnpkpfaaVl10
set_option linter.unusedVariables false
set_option linter.unusedSimpArgs false
namespace Go.VL
open Go.RowKit

theorem toVL_rep {E : Env} : ∀ {cs : List AV} {vs ws : List Value}, RepL E cs vs → toVL cs = some ws → vs = ws
  | _, _, _, .nil, h => by simpa [toVL] using h.symm
  | _, _, ws, .cons (a := a) ha hs, h => by
    cases a <;> simp [toVL] at h
    obtain ⟨r, h1, rfl⟩ := h
    rw [toVL_rep hs h1, rep_v ha]
theorem mkKey_rep {E : Env} {ag : Bool} {a : AV} {u x : Value} (h : Rep E a u) (hk : mkKey ag a = some x) : u = x ∧ Shape ag x ∧ (ag = false → x.oneCell' = true) := by
  cases ag <;> cases a <;> simp [mkKey] at hk
  · obtain ⟨h1, rfl⟩ := hk
    exact ⟨rep_v h, (fun hh => by cases hh), fun _ => h1⟩
  · obtain ⟨l, h1, rfl⟩ := hk
    cases h with
    | agg h2 h3 => rw [toVL_rep h2 h1]; exact ⟨rfl, (fun _ => ⟨l, rfl⟩), fun hh => by cases hh⟩

theorem flatT_len {P : Program} : ∀ {d : Nat} {t : TypeId} {ag : Bool} {ls : List Leaf}, flatT P d t = some (ag, ls) → ag = true ∨ ls.length = 1
  | 0, _, _, _, h => by simp [flatT] at h
  | d + 1, t, ag, ls, h => by
    unfold flatT at h
    split at h
    · simp at h; obtain ⟨rfl, rfl⟩ := h; simp
    · simp at h; obtain ⟨rfl, rfl⟩ := h; simp
    · simp at h; obtain ⟨rfl, rfl⟩ := h; simp
    · split at h
      · simp at h
      · simp at h; exact .inl h.2
    · split at h
      · split at h
        · simp at h; exact .inl h.1
        · simp at h
      · simp at h
    · simp at h

section
variable {P : Program}

theorem done_eq {E : Env} (r : R E) {neg : Bool} {t : TypeId} {ag : Bool} {ls : List Leaf} (hf : flatT P 10 t = some (ag, ls)) (hg : ag = true → P.eqGuardType P.depth t = false) {x y : AV} {u v : Value} (hx : Rep E x u) (hy : Rep E y v)
    (hok : (evEq neg ⟨ag, ls⟩ E.O E.G x y).ok) (a b : Operand) :
    Done E (evEq neg ⟨ag, ls⟩ E.O E.G x y) ((do eqGuard (if neg then .neq else .eql) t a b u v; binOp (if neg then .neq else .eql) t u v : Sem Value).run P E.w) := by
  unfold evEq at hok ⊢
  dsimp only at hok ⊢
  split at hok
  · rename_i x' y' e1 e2
    split at hok
    · rename_i res he
      obtain ⟨rfl, s1, n1⟩ := mkKey_rep hx e1
      obtain ⟨rfl, s2, n2⟩ := mkKey_rep hy e2
      have heq := flat_eq 10 t ag ls hf 9990 E.w u v res s1 s2 (fun h => ⟨n1 h, n2 h⟩) he
      have heq' : (Op.equal t u v).run P E.w = .ok res E.w := heq
      refine Done.same r ?_ (.v _)
      cases ag
      · -- a plain type
        have hl : ls.length = 1 := by simpa using flatT_len hf
        obtain ⟨l, rfl⟩ : ∃ l, ls = [l] := by
          match ls, hl with
          | [l], _ => exact ⟨l, rfl⟩
        have hle := leaf_of (n1 rfl) (n2 rfl) he
        unfold leafEq at hle
        split at hle <;> simp at hle
        · obtain ⟨⟨rfl, rfl⟩, rfl⟩ := hle
          cases neg <;> simp [eqGuard, binOp, Op.intCmp, bne]
        · subst hle
          cases neg <;> simp [eqGuard, binOp, heq']
        · subst hle
          cases neg <;> simp [eqGuard, binOp, Op.stringOp, beq_toListBytes]
      · obtain ⟨xs, rfl⟩ := s1 rfl
        obtain ⟨ys, rfl⟩ := s2 rfl
        have hgg := hg rfl
        cases neg <;> simp [run_eqGuard_agg, hgg, binOp, heq']
    · exact hok.elim
  · exact hok.elim

theorem eqNil_ptr {E : Env} {b : AV} {v : Value} (hb : b.isPtr = true) (h : Rep E b v) : ∃ p, v = .pointer (some p) := by
  cases b <;> simp [AV.isPtr] at hb <;> cases h <;> exact ⟨_, rfl⟩

theorem run_nil_eq {t e : TypeId} (hu : P.underlying t = some (.pointer e)) (w : World) (p : Option Addr) :
    (Op.equal t (.pointer none) (.pointer p)).run P w = .ok p.isNone w ∧ (Op.equal t (.pointer p) (.pointer none)).run P w = .ok p.isNone w := by
  have h1 : (Op.equalIn (9999 + 1) t (.pointer none) (.pointer p)).run P w = .ok p.isNone w := by
    rw [Op.equalIn]; simp only [Sem.run_bind, run_underlying hu, Result.andThen_ok]; rfl
  have h2 : (Op.equalIn (9999 + 1) t (.pointer p) (.pointer none)).run P w = .ok p.isNone w := by
    cases p with
    | none => exact h1
    | some a => rw [Op.equalIn]; simp only [Sem.run_bind, run_underlying hu, Result.andThen_ok]; rfl
  exact ⟨h1, h2⟩

theorem run_ptr_eql {t : TypeId} {p q : Option Addr} {w : World} {res : Bool} (h : (Op.equal t (.pointer p) (.pointer q)).run P w = .ok res w) (neg : Bool) (a b : Operand) :
    ((do eqGuard (if neg then .neq else .eql) t a b (.pointer p) (.pointer q); binOp (if neg then .neq else .eql) t (.pointer p) (.pointer q) : Sem Value)).run P w = .ok (.bool (if neg then !res else res)) w := by
  cases neg
  · have hb : binOp .eql t (.pointer p) (.pointer q) = (do pure (.bool (← Op.equal t (.pointer p) (.pointer q))) : Sem Value) := by simp only [binOp]
    simp only [Bool.false_eq_true, if_false, hb, Sem.run_bind, h]
    simp [eqGuard, h]
  · have hb : binOp .neq t (.pointer p) (.pointer q) = (do pure (.bool (!(← Op.equal t (.pointer p) (.pointer q)))) : Sem Value) := by simp only [binOp]
    simp only [if_true, hb, Sem.run_bind, h]
    simp [eqGuard, h]

theorem done_eqn {E : Env} (r : R E) {neg : Bool} {t : TypeId} {e : TypeId} (hu : P.underlying t = some (.pointer e)) {x y : AV} {u v : Value} (hx : Rep E x u) (hy : Rep E y v)
    (hok : (evEqn neg E.O E.G x y).ok) (a b : Operand) :
    Done E (evEqn neg E.O E.G x y) ((do eqGuard (if neg then .neq else .eql) t a b u v; binOp (if neg then .neq else .eql) t u v : Sem Value).run P E.w) := by
  unfold evEqn at hok ⊢
  split at hok
  · rename_i res he
    refine Done.same r ?_ (.v _)
    unfold eqNil at he
    split at he
    · injection he with he; subst he
      obtain rfl := rep_v hx; obtain rfl := rep_v hy
      exact run_ptr_eql (run_nil_eq hu E.w none).1 neg a b
    · split at he
      · rename_i hb
        injection he with he; subst he
        obtain rfl := rep_v hx
        obtain ⟨p, rfl⟩ := eqNil_ptr hb hy
        exact run_ptr_eql (run_nil_eq hu E.w (some p)).1 neg a b
      · simp at he
    · split at he
      · rename_i hb
        injection he with he; subst he
        obtain rfl := rep_v hy
        obtain ⟨p, rfl⟩ := eqNil_ptr hb hx
        exact run_ptr_eql (run_nil_eq hu E.w (some p)).2 neg a b
      · simp at he
    · simp at he
  · exact hok.elim
end
end Go.VL
