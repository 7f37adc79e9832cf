/- Value logic, part 12: maps. -/
import Derived.Test.YtohccdodnpkpfaaVl11
set_option linter.unusedVariables false
set_option linter.unusedSimpArgs false
namespace Go.VL
open Go.RowKit

theorem bytes_beq (a b : ByteArray) : (a == b) = true ↔ a = b := by
  obtain ⟨⟨x⟩⟩ := a
  obtain ⟨⟨y⟩⟩ := b
  show ((⟨x⟩ : Array UInt8) == ⟨y⟩) = true ↔ _
  simp

theorem leafEq_same {l : Leaf} {a b : Value} {r : Bool} (h : leafEq l a b = some r) : (r = true ↔ a = b) ∧ ∃ r', leafEq l b b = some r' := by
  unfold leafEq at h
  split at h
  · rename_i k k1 x k2 y
    split at h
    · rename_i hc; obtain ⟨rfl, rfl⟩ := hc
      injection h with h; subst h
      exact ⟨by simp, true, by simp [leafEq]⟩
    · cases h
  · injection h with h; subst h; exact ⟨by simp, true, by simp [leafEq]⟩
  · injection h with h; subst h; exact ⟨by rw [bytes_beq]; simp, true, by simp [leafEq, bytes_beq]⟩
  · cases h
theorem leavesEq_same : ∀ {ls : List Leaf} {xs ys : List Value} {r : Bool}, leavesEq ls xs ys = some r → (r = true ↔ xs = ys)
  | [], [], [], r, h => by simp [leavesEq] at h; subst h; simp
  | [], [], _ :: _, _, h => by simp [leavesEq] at h
  | [], _ :: _, _, _, h => by simp [leavesEq] at h
  | _ :: _, [], _, _, h => by simp [leavesEq] at h
  | _ :: _, _ :: _, [], _, h => by simp [leavesEq] at h
  | l :: ls, x :: xs, y :: ys, r, h => by
    simp only [leavesEq] at h
    split at h
    · rename_i a b h1 h2
      injection h with h; subst h
      have i1 := (leafEq_same h1).1
      have i2 := leavesEq_same h2
      simp only [Bool.and_eq_true, i1, i2, List.cons.injEq]
    · cases h

def KeyVal (ag : Bool) (x : Value) : Prop := Shape ag x ∧ (ag = false → x.oneCell' = true)
theorem keyVal_shapeB {ag : Bool} {x : Value} : shapeB ag x = true ↔ KeyVal ag x := by
  cases ag
  · simp [shapeB, KeyVal, Shape]
  · cases x <;> simp [shapeB, KeyVal, Shape]
    rename_i cs
    exact ⟨cs.toList, by simp⟩
theorem cellsL_inj {ag : Bool} {x y : Value} (hx : KeyVal ag x) (hy : KeyVal ag y) (h : cellsL x = cellsL y) : x = y := by
  cases ag
  · have h1 := hx.2 rfl; have h2 := hy.2 rfl
    have ex : cellsL x = [x] := by cases x <;> simp_all [cellsL, Value.oneCell']
    have ey : cellsL y = [y] := by cases y <;> simp_all [cellsL, Value.oneCell']
    rw [ex, ey] at h; simpa using h
  · obtain ⟨xs, rfl⟩ := hx.1 rfl
    obtain ⟨ys, rfl⟩ := hy.1 rfl
    simp [cellsL] at h; rw [h]
theorem kEq_iff {ks : KS} {k k' : Value} {r : Bool} (hk : KeyVal ks.ag k) (h : kEq ks k k' = some r) : leavesEq ks.ls (cellsL k) (cellsL k') = some r ∧ KeyVal ks.ag k' ∧ (r = true ↔ k = k') := by
  unfold kEq at h
  split at h
  · rename_i hs
    have hk' := keyVal_shapeB.1 hs
    refine ⟨h, hk', ?_⟩
    rw [leavesEq_same h]
    exact ⟨cellsL_inj hk hk', fun e => by rw [e]⟩
  · cases h

section
variable {P : Program}

/-! ### A key may be a key -/
def CkOK (P : Program) (em : Bool) (D : Nat) (t : TypeId) (ag : Bool) (ls : List Leaf) : Prop :=
  ∀ (w : World) (x : Value) (r : Bool), Shape ag x → (ag = false → x.oneCell' = true) → leavesEq ls (cellsL x) (cellsL x) = some r → (Instr.checkKey em D t x).run P w = .ok () w

theorem ck_fields {F : TypeId → Option (Bool × List Leaf)} {em : Bool} {D : Nat} (IH : ∀ t ag ls, F t = some (ag, ls) → CkOK P em D t ag ls) (xs : List Value) : ∀ (fs : List Field) (off : Nat) (ls : List Leaf) (r : Bool),
    off ≤ xs.length → flatFs P F fs off = some ls → leavesEq ls (xs.drop off) (xs.drop off) = some r → ∀ w,
    (forIn fs PUnit.unit (fun (f : Field) (_ : PUnit) => do
      if f.name ≠ "_" then Instr.checkKey em D f.type (← part f.type xs.toArray f.offset)
      pure (ForInStep.yield PUnit.unit)) : Sem PUnit).run P w = .ok PUnit.unit w
  | [], off, ls, r, _, hf, he, w => by simp
  | f :: fs, off, ls, r, hbx, hf, he, w => by
    simp only [flatFs] at hf
    split at hf
    · rename_i ag l1 hF
      split at hf
      · rename_i hc
        obtain ⟨rfl, c2, c3, c4, c5⟩ := hc
        simp at hf
        obtain ⟨l2, hf2, rfl⟩ := hf
        obtain ⟨r1, r2, k1, k2, rfl, k4, k5⟩ := leavesEq_split he
        simp only [List.drop_drop] at k2
        simp at k4 k5
        have hone : ag = false → l1.length = 1 := fun h => by rcases c5 with h' | h' <;> simp_all
        have hnx : f.offset + (if ag then l1.length else 1) ≤ xs.length := by cases ag <;> simp_all <;> omega
        have heq : (if ag then l1.length else 1) = l1.length := by cases ag <;> simp_all
        have ho : ag = false → (xs.getD f.offset undef).oneCell' = true := fun h => by
          obtain ⟨l, rfl⟩ : ∃ l, l1 = [l] := by
            have := hone h
            match l1, this with
            | [l], _ => exact ⟨l, rfl⟩
          have := (head_one k1).1
          simpa [List.getD_eq_getElem?_getD, List.getElem?_take, List.getElem?_drop] using this
        have p1 := run_part_of c3 c4 w xs f.offset hnx
        rw [heq] at p1 hnx
        have h3 := IH f.type ag l1 hF w _ r1 (shape_mkv ag xs f.offset l1.length) (fun h => by
          have o1 := ho h
          subst h
          simpa [mkv] using o1) (by
          rw [cellsL_mkv hone hnx (fun h => ho h)]
          exact k1)
        have h4 := ck_fields IH xs fs (f.offset + l1.length) l2 r2 (by omega) hf2 k2 w
        simp only [List.forIn_cons, Sem.run_bind, c2, ne_eq, not_false_eq_true, if_true, p1, Result.andThen_ok, h3, Sem.run_pure]
        exact h4
      · simp at hf
    · simp at hf

theorem ck_items {e : TypeId} {em : Bool} {D : Nat} {ag : Bool} {l1 : List Leaf} (IH : CkOK P em D e ag l1) (c3 : szOf P e = some l1.length) (c4 : agOf P e = some ag) (c5 : ag = true ∨ l1.length = 1) (xs : List Value) : ∀ (n k : Nat) (r : Bool), k * l1.length ≤ xs.length →
    leavesEq (List.replicate n l1).flatten (xs.drop (k * l1.length)) (xs.drop (k * l1.length)) = some r → ∀ w,
    (forIn (List.range' k n) PUnit.unit (fun (i : Nat) (_ : PUnit) => do
      Instr.checkKey em D e (← part e xs.toArray (i * (← sizeOf e)))
      pure (ForInStep.yield PUnit.unit)) : Sem PUnit).run P w = .ok PUnit.unit w
  | 0, k, r, _, he, w => by simp
  | n + 1, k, r, hbx, he, w => by
    rw [List.replicate_succ, List.flatten_cons] at he
    obtain ⟨r1, r2, k1, k2, rfl, k4, k5⟩ := leavesEq_split he
    simp only [List.drop_drop] at k2
    simp at k4 k5
    have hone : ag = false → l1.length = 1 := fun h => by rcases c5 with h' | h' <;> simp_all
    have heq : (if ag then l1.length else 1) = l1.length := by cases ag <;> simp_all
    have hnx : k * l1.length + l1.length ≤ xs.length := by omega
    have ho : ag = false → (xs.getD (k * l1.length) undef).oneCell' = true := fun h => by
      obtain ⟨l, rfl⟩ : ∃ l, l1 = [l] := by
        have := hone h
        match l1, this with
        | [l], _ => exact ⟨l, rfl⟩
      have := (head_one k1).1
      simpa [List.getD_eq_getElem?_getD, List.getElem?_take, List.getElem?_drop] using this
    have p1 := run_part_of c3 c4 w xs (k * l1.length) (by rw [heq]; exact hnx)
    rw [heq] at p1
    have h3 := IH w _ r1 (shape_mkv ag xs (k * l1.length) l1.length) (fun h => by
      have o1 := ho h
      subst h
      simpa [mkv] using o1) (by
      rw [cellsL_mkv hone hnx (fun h => ho h)]
      exact k1)
    have h4 := ck_items IH c3 c4 c5 xs n (k + 1) r2 (by rw [Nat.succ_mul]; omega) (by rw [Nat.succ_mul]; exact k2) w
    simp only [List.range'_succ, List.forIn_cons, Sem.run_bind, run_sizeOf_of c3, p1, Result.andThen_ok, h3, Sem.run_pure]
    exact h4

theorem flat_ck (em : Bool) : ∀ (d : Nat) (t : TypeId) (ag : Bool) (ls : List Leaf), flatT P d t = some (ag, ls) → ∀ D, CkOK P em (D + d) t ag ls
  | 0, t, ag, ls, h, D => by simp [flatT] at h
  | d + 1, t, ag, ls, h, D => by
    intro w x r sx so he
    rw [← Nat.add_assoc]
    unfold flatT at h
    split at h
    · rename_i hu
      rw [Instr.checkKey]; simp only [Sem.run_bind, run_underlying hu, Result.andThen_ok]
      simp
    · rename_i k hu
      rw [Instr.checkKey]; simp only [Sem.run_bind, run_underlying hu, Result.andThen_ok]
      simp
    · rename_i hu
      rw [Instr.checkKey]; simp only [Sem.run_bind, run_underlying hu, Result.andThen_ok]
      simp
    · rename_i fs hu
      split at h
      · simp at h
      · simp at h
        obtain ⟨hfl, rfl⟩ := h
        obtain ⟨xs, rfl⟩ := sx rfl
        rw [Instr.checkKey]; simp only [Sem.run_bind, run_underlying hu, Result.andThen_ok]
        rw [← Array.forIn_toList]
        have := ck_fields (P := P) (em := em) (D := D + d) (fun t' ag' ls' h' => flat_ck em d t' ag' ls' h' D) xs fs.toList 0 ls r (Nat.zero_le _) hfl (by simpa [cellsL] using he) w
        simp at this ⊢
        simp [this]
    · rename_i n e hu
      split at h
      · rename_i ag' l1 hF
        split at h
        · rename_i hc
          simp at h
          obtain ⟨rfl, rfl⟩ := h
          obtain ⟨c3, c4, c5⟩ := hc
          obtain ⟨xs, rfl⟩ := sx rfl
          rw [Instr.checkKey]; simp only [Sem.run_bind, run_underlying hu, Result.andThen_ok]
          simp only [Std.Legacy.Range.forIn_eq_forIn_range', Std.Legacy.Range.size, Nat.sub_zero, Nat.add_one_sub_one, Nat.div_one]
          have := ck_items (flat_ck em d e ag' l1 hF D) c3 c4 c5 xs n 0 r (by simp) (by simpa [cellsL] using he) w
          simp at this ⊢
          simp [this]
        · simp at h
      · simp at h
    · simp at h

/-! ### Looking for a key -/
def findC (ks : KS) (k : Value) : List MapEntry → Nat → Option (Option (Nat × MapEntry))
  | [], _ => some none
  | e :: es, i => match kEq ks k e.key with
    | some true => some (some (i, e))
    | some false => findC ks k es (i + 1)
    | none => none

theorem findC_idxE {ks : KS} {k : Value} (hk : KeyVal ks.ag k) : ∀ {es : List MapEntry} {i : Nat} {r : Option (Nat × MapEntry)}, findC ks k es i = some r → idxE ks.ls k es i = r
  | [], i, r, h => by simp [findC] at h; subst h; rfl
  | e :: es, i, r, h => by
    simp only [findC] at h
    split at h
    · rename_i hq
      injection h with h; subst h
      simp [idxE, (kEq_iff hk hq).1]
    · rename_i hq
      simp only [idxE, (kEq_iff hk hq).1]
      simpa using findC_idxE hk h
    · cases h

theorem run_findKey {kt : TypeId} {ks : KS} (hf : flatT P 10 kt = some (ks.ag, ks.ls)) {x : Value} (hx : KeyVal ks.ag x) (w : World) {es : List MapEntry} {r : Option (Nat × MapEntry)} (hr : findC ks x es 0 = some r) :
    (Instr.findKey kt x es).run P w = .ok (r.map fun p => (p.1, p.2.val)) w := by
  have ask : ∀ (es : List MapEntry) (i : Nat) (r : Option (Nat × MapEntry)), findC ks x es i = some r → (Instr.findAsking kt x es i).run P w = .ok (r.map fun p => (p.1, p.2.val)) w := by
    intro es
    induction es with
    | nil => intro i r h; simp [findC] at h; subst h; simp [Instr.findAsking]
    | cons e es ih =>
      intro i r h
      simp only [findC] at h
      have key : ∀ q, kEq ks x e.key = some q → (Op.equal kt x e.key).run P w = .ok q w := fun q hq => by
        obtain ⟨h1, h2, h3⟩ := kEq_iff hx hq
        exact flat_eq 10 kt ks.ag ks.ls hf 9990 w x e.key q hx.1 h2.1 (fun h => ⟨hx.2 h, h2.2 h⟩) h1
      split at h
      · rename_i hq
        injection h with h; subst h
        simp [Instr.findAsking, key _ hq]
      · rename_i hq
        simpa [Instr.findAsking, key _ hq] using ih (i + 1) r h
      · cases h
  have now : ∀ (es : List MapEntry) (i : Nat) (d : TypeDesc) (r : Option (Nat × MapEntry)), P.underlying kt = some d → findC ks x es i = some r → Instr.findNow d x es i = none ∨ Instr.findNow d x es i = some (r.map fun p => (p.1, p.2.val)) := by
    intro es
    induction es with
    | nil => intro i d r _ h; simp [findC] at h; subst h; right; rfl
    | cons e es ih =>
      intro i d r hu h
      have key : ∀ q, kEq ks x e.key = some q → Instr.sameNow d x e.key = none ∨ Instr.sameNow d x e.key = some q := fun q hq => by
        obtain ⟨h1, h2, h3⟩ := kEq_iff hx hq
        clear h
        unfold Instr.sameNow
        split
        · split
          · right; rename_i hke hk; subst hk; congr 1; rw [Bool.eq_iff_iff, h3, hke]; simp
          · left; rfl
        · rename_i hke; right; congr 1; rw [Bool.eq_iff_iff, h3, hke, bytes_beq]; simp
        · rename_i hke; right; congr 1; rw [Bool.eq_iff_iff, h3, hke]; simp
        · left; rfl
      simp only [findC] at h
      simp only [Instr.findNow]
      split at h
      · rename_i hq
        injection h with h; subst h
        rcases key _ hq with hs | hs <;> rw [hs]
        · left; rfl
        · right; rfl
      · rename_i hq
        rcases key _ hq with hs | hs <;> rw [hs]
        · left; rfl
        · exact ih (i + 1) d r hu h
      · cases h
  obtain ⟨d, hu⟩ : ∃ d, P.underlying kt = some d := by
    unfold flatT at hf
    split at hf <;> first | exact ⟨_, ‹_›⟩ | simp at hf
  unfold Instr.findKey
  simp only [Sem.run_bind, run_underlying hu, Result.andThen_ok]
  rcases now es 0 d r hu hr with h1 | h1
  · rw [h1]; exact ask es 0 r hr
  · rw [h1]; rfl

/-- The abstract entries and the entries: the same is found. -/
theorem findM_C {E : Env} {ks : KS} {k : Value} : ∀ {es : List (Value × AV)} {ces : List MapEntry} (h : RepE E es ces) (i : Nat) {o : Option AV}, findM ks k es = some o →
    (o = none ∧ findC ks k ces i = some none) ∨ ∃ a j c, o = some a ∧ findC ks k ces i = some (some (i + j, c)) ∧ ces[j]? = some c ∧ Rep E a c.val ∧ es[j]? = some (c.key, a) ∧ kEq ks k c.key = some true
  | [], [], _, i, o, h => by simp [findM] at h; exact .inl ⟨h.symm, rfl⟩
  | (k', a) :: es, c :: ces, .cons h1 h2 h3, i, o, h => by
    subst h1
    simp only [findM] at h
    simp only [findC]
    split at h
    · rename_i hq
      injection h with h
      exact .inr ⟨a, 0, c, h.symm, by rw [hq]; rfl, rfl, h2, rfl, hq⟩
    · rename_i hq
      rcases findM_C h3 (i + 1) h with ⟨h4, h5⟩ | ⟨a', j, c', h4, h5, h6, h7, h8, h9⟩
      · exact .inl ⟨h4, by rw [hq]; exact h5⟩
      · refine .inr ⟨a', j + 1, c', h4, ?_, by simpa using h6, h7, by simpa using h8, h9⟩
        rw [hq, show i + (j + 1) = i + 1 + j from by omega]; exact h5
    · cases h

theorem keyVal_mk {E : Env} {ag : Bool} {a : AV} {u x : Value} (h : Rep E a u) (hk : mkKey ag a = some x) : u = x ∧ KeyVal ag x := by
  obtain ⟨h1, h2, h3⟩ := mkKey_rep h hk
  exact ⟨h1, h2, h3⟩

theorem run_checkKey_of {kt : TypeId} {ks : KS} (hf : flatT P 10 kt = some (ks.ag, ks.ls)) {x : Value} (hx : KeyVal ks.ag x) (hs : (kEq ks x x).isSome = true) (em : Bool) (w : World) : (Instr.checkKey em 10000 kt x).run P w = .ok () w := by
  obtain ⟨r, hr⟩ := Option.isSome_iff_exists.1 hs
  exact flat_ck em 10 kt ks.ag ks.ls hf 9990 w x r hx.1 hx.2 (kEq_iff hx hr).1

theorem run_getObj_map {w : World} {b : Nat} {es : Array MapEntry} {c : Nat} (h : w.heap[b]? = some (.map es c)) : (getObj b).run P w = .ok (.map es c) w := by
  simp [getObj, Sem.run, h]

def setBlk (w : World) (b : Nat) (o : Obj) : World := { w with heap := w.heap.setIfInBounds b o }
theorem run_setObj_map {w : World} {b : Nat} {es : Array MapEntry} {c : Nat} (h : w.heap[b]? = some (.map es c)) (o : Obj) : (setObj b o).run P w = .ok () (setBlk w b o) := by
  simp [setObj, Sem.run, h, setBlk]
theorem setBlk_self {w : World} {b : Nat} {o' o : Obj} (h : w.heap[b]? = some o') : (setBlk w b o).heap[b]? = some o := by
  have := (Array.getElem?_eq_some_iff.1 h).1
  simp [setBlk, this]
theorem Turn.setBlk (E : Env) (b : Nat) (o : Obj) : Turn E (setBlk E.w b o) b :=
  ⟨rfl, rfl, rfl, by simp [VL.setBlk], fun k _ hne => by simp [VL.setBlk, Array.getElem?_setIfInBounds_ne (Ne.symm hne)]⟩

/-- What a map's location holds. -/
theorem R.mapAt {E : Env} (r : R E) {l b g : Nat} {es : List (Value × AV)} (h : E.O[l]? = some (.map g es)) (hp : E.pl l = some b) :
    ∃ ces clk, E.w.heap[b]? = some (.map ces clk) ∧ RepE E es ces.toList ∧ (ces.toList.Pairwise fun a b => a.born < b.born) ∧ (∀ c ∈ ces.toList, c.born < clk) ∧ (es.map Prod.fst).Nodup := by
  obtain ⟨b', ces, clk, h1, h2, h3, h4, h5, h6⟩ := r.obj l _ h
  rw [hp] at h1; injection h1 with h1; subst h1
  exact ⟨ces, clk, h2, h3, h4, h5, h6⟩

theorem done_look {E : Env} (r : R E) {t kt e : TypeId} (hu : P.underlying t = some (.map kt e)) {ks : KS} (hf : flatT P 10 kt = some (ks.ag, ks.ls)) {z : AV} (hz : zeroOf P e = some z) {okk : Bool} {m k : AV} {u v : Value} (hm : Rep E m u) (hk : Rep E k v)
    (hok : (evLook ks z okk E.O E.G m k).ok) : Done E (evLook ks z okk E.O E.G m k) ((Instr.lookup t u v okk).run P E.w) := by
  unfold evLook at hok ⊢
  split at hok
  · rename_i l
    cases hm with
    | lm b g es h1 h2 =>
      simp only [h1] at hok ⊢
      obtain ⟨ces, clk, q1, q2, q3, q4, q5⟩ := r.mapAt h1 h2
      obtain ⟨iz, zv, z1, z2, z3⟩ := zeroOf_some hz
      split at hok
      · rename_i g' es' kv e1 e2
        injection e1 with e1; injection e1 with e3 e4; subst e3; subst e4
        obtain ⟨rfl, hkv⟩ := keyVal_mk hk e2
        split at hok
        · rename_i a e5
          have hck := run_checkKey_of (P := P) hf hkv hok ces.isEmpty E.w
          rcases findM_C q2 0 e5 with ⟨h5, _⟩ | ⟨a', j, c, h5, h6, h7, h8, _, _⟩
          · cases h5
          · injection h5 with h5; subst h5
            have hfk := run_findKey hf hkv E.w h6
            refine Done.same r (v := if okk then .tuple #[c.val, .bool true] else c.val) ?_ ?_
            · simp [Instr.lookup, run_underlying hu, run_getObj_map q1, hck, hfk]
            · cases okk
              · exact h8
              · exact .tup (.cons h8 (.cons (.v _) .nil))
        · rename_i e5
          have hck := run_checkKey_of (P := P) hf hkv hok ces.isEmpty E.w
          rcases findM_C q2 0 e5 with ⟨_, h6⟩ | ⟨a', j, c, h5, _⟩
          · have hfk := run_findKey hf hkv E.w h6
            refine Done.same r (v := if okk then .tuple #[zv, .bool false] else zv) ?_ ?_
            · simp [Instr.lookup, run_underlying hu, run_getObj_map q1, hck, hfk, run_zeroValue_of z1 z2]
            · cases okk
              · exact ofC_rep z3 E
              · exact .tup (.cons (ofC_rep z3 E) (.cons (.v _) .nil))
          · cases h5
        · exact hok.elim
      · exact hok.elim
  · exact hok.elim
end
end Go.VL
