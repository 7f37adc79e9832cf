/- Value logic, part 9: operations that only reckon. -/
import Derived.Test.YtohccdodnpkpfaaVl8
set_option linter.unusedVariables false
set_option linter.unusedSimpArgs false
namespace Go.VL
open Go.RowKit

theorem rep_v {E : Env} {x y : Value} (h : Rep E (.v x) y) : y = x := by cases h; rfl

section
variable {P : Program}

theorem done_nilc {E : Env} (r : R E) {x : AV} {y : Value} (hx : Rep E x y) (hok : (evNilc E.O E.G x).ok) :
    (∃ p, y = .pointer (some p)) ∧ Rep E (evNilc E.O E.G x).a y ∧ (evNilc E.O E.G x).O = E.O ∧ (evNilc E.O E.G x).G = E.G := by
  cases hx with
  | ref b cs h1 h2 => exact ⟨⟨_, rfl⟩, .ref b cs h1 h2, rfl, rfl⟩
  | refB b cs h1 h2 => exact ⟨⟨_, rfl⟩, .refB b cs h1 h2, rfl, rfl⟩
  | fp b o h1 h2 h3 => exact ⟨⟨_, rfl⟩, .fp b o h1 h2 h3, rfl, rfl⟩
  | er h h1 =>
    obtain ⟨sz, h0, xs, ho, hg, hy⟩ := h
    simp only [evNilc, ho] at hok ⊢
    obtain ⟨b, hp, rfl⟩ := hy hok.symm
    exact ⟨⟨_, rfl⟩, .er ⟨sz, h0, xs, ho, hg, fun _ => ⟨b, hp, rfl⟩⟩ h1, by simp, by simp⟩
  | _ => simp only [evNilc] at hok; exact hok.elim

theorem done_bin {E : Env} (r : R E) {op : BinOp} {t : TypeId} {x y : AV} {u v : Value} (hx : Rep E x u) (hy : Rep E y v) (hok : (evBin op E.O E.G x y).ok) (a b : Operand) (hop : okBin op = true) :
    Done E (evBin op E.O E.G x y) ((do eqGuard op t a b u v; binOp op t u v : Sem Value).run P E.w) := by
  have hg : (eqGuard op t a b u v) = pure () := by cases op <;> simp [okBin] at hop <;> rfl
  rw [hg]
  unfold evBin at hok ⊢
  split at hok
  · rename_i k a' k' b'
    obtain rfl := rep_v hx; obtain rfl := rep_v hy
    cases op <;> simp [okBin] at hop <;> simp only [Sem.run_bind, Sem.run_pure, Result.andThen_ok] <;> simp only at hok <;> first
      | (obtain rfl := hok; exact Done.same r (by simp [binOp, Op.intArith, Op.intCmp]) (.v _))
      | (obtain ⟨rfl, h0⟩ := hok; exact Done.same r (by simp [binOp, Op.intDiv, h0]) (.v _))
  · rename_i a' b'
    obtain rfl := rep_v hx; obtain rfl := rep_v hy
    cases op <;> simp [okBin] at hop <;> simp only [Sem.run_bind, Sem.run_pure, Result.andThen_ok] <;> simp only [Rs.bad] at hok <;> first
      | exact hok.elim
      | (exact Done.same r (by simp [binOp, Op.stringOp, IntKind.max, IntKind.bits, IntKind.signed]; omega) (.v _))
      | (exact Done.same r (by simp [binOp, Op.stringOp]) (.v _))
  · exact hok.elim

theorem done_un {E : Env} (r : R E) {op : UnOp} {x : AV} {u : Value} (hx : Rep E x u) (hok : (evUn op E.O E.G x).ok) : Done E (evUn op E.O E.G x) ((Op.unary op u).run P E.w) := by
  unfold evUn at hok ⊢
  split at hok
  · obtain rfl := rep_v hx
    cases op <;> simp only [Rs.bad] at hok <;> first
      | exact hok.elim
      | exact Done.same r (by simp [Op.unary]) (.v _)
  · obtain rfl := rep_v hx
    cases op <;> simp only [Rs.bad] at hok <;> first
      | exact hok.elim
      | exact Done.same r (by simp [Op.unary, Op.intArith]) (.v _)
  · exact hok.elim

theorem done_conv {E : Env} (r : R E) {k0 k : IntKind} {s d : TypeId} (hs : P.underlying s = some (.int k0)) (hd : P.underlying d = some (.int k)) {x : AV} {u : Value} (hx : Rep E x u) (hok : (evConv k E.O E.G x).ok) :
    Done E (evConv k E.O E.G x) ((convert s d u).run P E.w) := by
  unfold evConv at hok ⊢
  split at hok
  · obtain rfl := rep_v hx
    exact Done.same r (by simp [convert, run_underlying hs, run_underlying hd, Conv.intToInt]) (.v _)
  · exact hok.elim

theorem run_convert_string {s d : TypeId} (hs : P.underlying s = some .string) (hd : P.underlying d = some .string) (w : World) (x : ByteArray) : (convert s d (.string x)).run P w = .ok (.string x) w := by
  simp [convert, run_underlying hs, run_underlying hd]

/-! ### Addresses -/
theorem run_fieldAt {s : TypeId} {fs : Array Field} {f : Nat} {fd : Field} (hu : P.underlying s = some (.struct fs)) (hf : fs[f]? = some fd) {n : Nat} (hn : szOf P fd.type = some n) (h0 : n ≠ 0) (w : World) (b o : Nat) :
    (Instr.fieldAt s (.pointer (some ⟨b, o, none⟩)) f).run P w = .ok (.pointer (some ⟨b, o + fd.offset, none⟩)) w := by
  simp [Instr.fieldAt, run_underlying hu, hf, Instr.sureAddr, fieldPlace, run_sizeOf_of hn, h0, add_lit0]

theorem done_fad {E : Env} (r : R E) {s : TypeId} {fs : Array Field} {f : Nat} {fd : Field} (hu : P.underlying s = some (.struct fs)) (hf : fs[f]? = some fd) {n : Nat} (hn : szOf P fd.type = some n) (h0 : n ≠ 0)
    {x : AV} {u : Value} (hx : Rep E x u) (hok : (evFad fd.offset E.O E.G x).ok) : Done E (evFad fd.offset E.O E.G x) ((Instr.fieldAt s u f).run P E.w) := by
  cases hx with
  | ref b cs h1 h2 =>
    simp only [evFad, h1] at hok ⊢
    exact Done.same r (run_fieldAt hu hf hn h0 E.w b _) (.ref b cs h1 h2)
  | refB b s h1 h2 => simp only [evFad, h1] at hok; exact hok.elim
  | fp b o h1 h2 h3 =>
    rename_i x u off
    have := run_fieldAt hu hf hn h0 E.w b (o + off)
    rw [Nat.add_assoc] at this
    exact Done.same r this (.fp b o h1 h2 h3)
  | er h h1 =>
    rename_i l g i off
    obtain ⟨sz, k0, xs, ho, hg, hy⟩ := h
    simp only [evFad, ho] at hok ⊢
    obtain ⟨b, hp, rfl⟩ := hy hok.symm
    have := run_fieldAt hu hf hn h0 E.w b (i * sz + off)
    rw [Nat.add_assoc] at this
    exact Done.same r this (.er ⟨sz, k0, xs, ho, hg, fun _ => ⟨b, hp, rfl⟩⟩ rfl)
  | _ => simp only [evFad] at hok; exact hok.elim

/-- What lies in a frozen row: one element. -/
theorem elem_rep {E : Env} {xs : List AV} {vs : List Value} {b o sz i : Nat} (h : RepL E xs vs) (hv : ∀ u ∈ vs, u.cells.size = sz) (hr : RowAt E.w b o (flat vs)) (hF : E.safe b (o + xs.length * sz)) (hi : i < xs.length) : Rep E (.fp (xs.getD i .any) 0) (.pointer (some ⟨b, o + i * sz, none⟩)) := by
  have hlen := h.length
  have hsub := hr.sub (i * sz) sz
  rw [flat_at hv i (by omega)] at hsub
  have hsz : ((vs.getD i undef).cells).size = sz := hv _ (by rw [List.getD_eq_getElem?_getD, List.getElem?_eq_getElem (by omega)]; simp)
  have hmul : i * sz + sz ≤ xs.length * sz := by rw [← Nat.succ_mul]; exact Nat.mul_le_mul_right sz hi
  exact .fp b (o + i * sz) (h.get i hi) hsub (hF.down (by omega))

theorem run_indexAt_slice {t e : TypeId} (hu : P.underlying t = some (.slice e)) {sz : Nat} (hs : szOf P e = some sz) (w : World) {k : IntKind} {b o len cap : Nat} {i : Int} (h0 : 0 ≤ i) (h1 : i < len) :
    (Instr.indexAt t (.slice (some ⟨b, o, none⟩) len cap) (.int k i)).run P w = .ok (.pointer (some ⟨b, o + i.toNat * sz, none⟩)) w := by
  simp [Instr.indexAt, asIntOf, run_underlying hu, h0, h1, run_sizeOf_of hs, add_lit0]

theorem done_iad {E : Env} (r : R E) {t e : TypeId} (hu : P.underlying t = some (.slice e)) {sz : Nat} (hs : szOf P e = some sz) (hsz : 0 < sz) {x i : AV} {u v : Value} (hx : Rep E x u) (hi : Rep E i v)
    (hok : (evIad sz E.O E.G x i).ok) : Done E (evIad sz E.O E.G x i) ((Instr.indexAt t u v).run P E.w) := by
  unfold evIad at hok ⊢
  split at hok
  · rename_i xs tl k n
    obtain rfl := rep_v hi
    obtain ⟨h0, h1, h2⟩ := hok
    have hlt : n.toNat < xs.length := by omega
    cases hx with
    | slE a cap _ _ => simp at hlt
    | @sl _ _ vs b o cap sz' g0 g1 g2 g3 g4 g5 g6 g7 =>
      have hel := g1.get n.toNat hlt
      obtain ⟨c1, _, _⟩ := hel.cells h2
      have hs2 : sz' = sz := by
        rw [← c1]
        exact (g2 _ (by rw [List.getD_eq_getElem?_getD, List.getElem?_eq_getElem (by rw [g1.length]; exact hlt)]; simp)).symm
      subst hs2
      exact Done.same r (run_indexAt_slice hu hs E.w h0 (by omega)) (elem_rep g1 g2 g4 g5 hlt)
  · rename_i l g off len k n
    obtain rfl := rep_v hi
    cases hx with
    | lsl h _ =>
      obtain ⟨sz', h0, xs, ho, hg, hy⟩ := h
      simp only [ho] at hok ⊢
      obtain ⟨k0, k1, rfl, rfl⟩ := hok
      rcases hy rfl with ⟨hl, _⟩ | ⟨b, cur, e', cap, p1, p2, rfl, p4, p5⟩
      · omega
      · have := run_indexAt_slice (k := k) (b := b) (o := off * sz') (cap := cap) hu hs E.w k0 k1
        rw [← Nat.add_mul] at this
        exact Done.same r this (.er ⟨sz', h0, xs, ho, Nat.le_refl _, fun _ => ⟨b, p1, rfl⟩⟩ rfl)
  · exact hok.elim

theorem run_indexAt_array {t e : TypeId} {len : Nat} (hu : P.underlying t = some (.array len e)) {sz : Nat} (hs : szOf P e = some sz) (w : World) {k : IntKind} {b o : Nat} {i : Int} (h0 : 0 ≤ i) (h1 : i < len) :
    (Instr.indexAt t (.pointer (some ⟨b, o, none⟩)) (.int k i)).run P w = .ok (.pointer (some ⟨b, o + i.toNat * sz, none⟩)) w := by
  simp [Instr.indexAt, asIntOf, run_underlying hu, h0, h1, run_sizeOf_of hs, add_lit0, Instr.sureAddr]

theorem done_aad {E : Env} (r : R E) {t e : TypeId} {len : Nat} (hu : P.underlying t = some (.array len e)) {sz : Nat} (hs : szOf P e = some sz) {x i : AV} {u v : Value} (hx : Rep E x u) (hi : Rep E i v)
    (hok : (evAad len sz E.O E.G x i).ok) : Done E (evAad len sz E.O E.G x i) ((Instr.indexAt t u v).run P E.w) := by
  unfold evAad at hok ⊢
  split at hok
  · rename_i l o k n
    obtain rfl := rep_v hi
    cases hx with
    | ref b cs h1 h2 =>
      simp only [h1] at hok ⊢
      exact Done.same r (run_indexAt_array hu hs E.w hok.1 hok.2) (.ref b cs h1 h2)
    | refB b s h1 h2 => simp only [h1] at hok; exact hok.elim
  · rename_i x' o k n
    obtain rfl := rep_v hi
    cases hx with
    | fp b o' h1 h2 h3 =>
      have := run_indexAt_array (k := k) (b := b) (o := o' + o) hu hs E.w hok.1 hok.2
      rw [Nat.add_assoc] at this
      exact Done.same r this (.fp b o' h1 h2 h3)
  · exact hok.elim

theorem done_idx {E : Env} (r : R E) {t : TypeId} (hu : P.underlying t = some .string) {x i : AV} {u v : Value} (hx : Rep E x u) (hi : Rep E i v)
    (hok : (evIdx E.O E.G x i).ok) : Done E (evIdx E.O E.G x i) ((Instr.index t u v).run P E.w) := by
  unfold evIdx at hok ⊢
  split at hok
  · rename_i s k n
    obtain rfl := rep_v hi; obtain rfl := rep_v hx
    obtain ⟨h0, h1⟩ := hok
    have hlt : n.toNat < s.size := by omega
    have hd : s.data.getD n.toNat 0 = s[n.toNat] := by
      have : n.toNat < s.data.size := hlt
      simp [Array.getD, hlt, ByteArray.getElem_eq_getElem_data]
    refine Done.same r ?_ (.v _)
    simp [Instr.index, asIntOf, run_underlying hu, h0, hlt, hd]
  · exact hok.elim

theorem done_fld {E : Env} (r : R E) {s : TypeId} {fs : Array Field} {f : Nat} {fd : Field} (hu : P.underlying s = some (.struct fs)) (hf : fs[f]? = some fd) {n : Nat} {ag : Bool} (hn : szOf P fd.type = some n) (ha : agOf P fd.type = some ag)
    {x : AV} {u : Value} (hx : Rep E x u) (hok : (evFld fd.offset (if ag then n else 1) ag E.O E.G x).ok) : Done E (evFld fd.offset (if ag then n else 1) ag E.O E.G x) ((Instr.field s u f).run P E.w) := by
  cases hx with
  | @agg cs vs h1 h2 =>
    simp only [evFld] at hok ⊢
    have hl := h1.length
    refine Done.same r ?_ (rdv_rep h1 h2 hok (by intro e; simp [e]))
    unfold Instr.field
    simp only [Sem.run_bind, run_underlying hu, Result.andThen_ok, hf, asAgg, Sem.run_pure, part, run_isAgg_of ha]
    cases ag
    · simp only [Bool.false_eq_true, if_false] at hok ⊢
      have hv : vs.toArray[fd.offset]? = some (vs.getD fd.offset undef) := by
        rw [List.getD_eq_getElem?_getD]; simp; rw [List.getElem?_eq_getElem (by omega)]; simp
      simp [hv, mkv]
    · simp only [if_true] at hok ⊢
      simp [run_sizeOf_of hn, mkv, List.extract_eq_take_drop, List.take_drop]
  | _ => simp only [evFld] at hok; exact hok.elim

theorem done_ext {E : Env} (r : R E) {vs : List AV} {u : Value} {i : Nat} (hx : Rep E (.tup vs) u) (hi : i < vs.length) {ok : Prop} : Done E ⟨ok, vs.getD i .any, E.O, E.G⟩ ((Instr.extract u i).run P E.w) := by
  cases hx with
  | @tup _ us h =>
    refine Done.same r ?_ (h.get i hi)
    have hl := h.length
    have hv : us.toArray[i]? = some (us.getD i undef) := by
      rw [List.getD_eq_getElem?_getD]; simp; rw [List.getElem?_eq_getElem (by omega)]; simp
    simp [Instr.extract, hv]

theorem RepE.length {E : Env} {es : List (Value × AV)} {cs : List MapEntry} (h : RepE E es cs) : cs.length = es.length := by
  induction h with
  | nil => rfl
  | cons _ _ _ ih => simp [ih]

def LenFit (P : Program) (t : TypeId) : AV → Prop
  | .v (.string _) => P.underlying t = some .string
  | .sl _ _ | .lsl _ _ _ _ => ∃ e, P.underlying t = some (.slice e)
  | .lm _ => ∃ k e, P.underlying t = some (.map k e)
  | _ => True
theorem done_len {E : Env} (r : R E) {t : TypeId} (hu : P.underlying t = some .string ∨ (∃ e, P.underlying t = some (.slice e)) ∨ ∃ k e, P.underlying t = some (.map k e)) {ty : TypeId} {x : AV} {u : Value} (hx : Rep E x u)
    (hok : (evLen E.O E.G x).ok) (hfit : LenFit P t x) :
    Done E (evLen E.O E.G x) ((Builtin.len_ #[t] ty #[u]).run P E.w) := by
  unfold evLen at hok ⊢
  split at hok
  · obtain rfl := rep_v hx
    exact Done.same r (by simp [Builtin.len_, run_underlying hfit, goInt]) (.v _)
  · obtain ⟨e, hfit⟩ := hfit
    cases hx with
    | slE a cap _ _ => exact Done.same r (by simp [Builtin.len_, run_underlying hfit, goInt]) (.v _)
    | sl b o cap sz' g0 g1 g2 g3 g4 g5 g6 g7 => exact Done.same r (by simp [Builtin.len_, run_underlying hfit, goInt]) (.v _)
  · obtain ⟨e, hfit⟩ := hfit
    cases hx with
    | lsl h _ =>
      obtain ⟨sz', h0, xs, ho, hg, hy⟩ := h
      simp only [ho] at hok ⊢
      rcases hy hok.symm with ⟨rfl, a, rfl⟩ | ⟨b, cur, e', cap, p1, p2, rfl, p4, p5⟩
      · exact Done.same r (by simp [Builtin.len_, run_underlying hfit, goInt]) (.v _)
      · exact Done.same r (by simp [Builtin.len_, run_underlying hfit, goInt]) (.v _)
  · obtain ⟨kt, e, hfit⟩ := hfit
    cases hx with
    | lm b g es h1 h2 =>
      simp only [h1] at hok ⊢
      obtain ⟨b', ces, clk, q1, q2, q3, _⟩ := r.obj _ _ h1
      rw [h2] at q1; injection q1 with q1; subst q1
      refine Done.same r ?_ (.v _)
      simp [Builtin.len_, run_underlying hfit, goInt, getObj, Sem.run, q2, ← q3.length]
  · exact hok.elim

/-! ### Parts of slices and strings -/
theorem run_bounds {isS : Bool} {len cap : Nat} {kl kh : IntKind} {l h : Int} (lo hi : Option Value) (hlo : lo = some (.int kl l) ∨ (lo = none ∧ l = 0)) (hhi : hi = some (.int kh h) ∨ (hi = none ∧ h = len))
    (h0 : 0 ≤ l) (h1 : l ≤ h) (h2 : h ≤ len) (hc : len ≤ cap) (w : World) : (Instr.sliceBounds isS len cap lo hi none).run P w = .ok (l.toNat, h.toNat, cap) w := by
  have e1 : (0 : Int) ≤ h := by omega
  have e2 : h ≤ (cap : Int) := by omega
  have e3 : l ≤ ((h.toNat : Nat) : Int) := by omega
  rcases hlo with rfl | ⟨rfl, rfl⟩ <;> rcases hhi with rfl | ⟨rfl, rfl⟩
  · simp [Instr.sliceBounds, Instr.sliceBound, asIntOf, e1, e2, h0, e3]; intro hh; omega
  · simp [Instr.sliceBounds, Instr.sliceBound, asIntOf, h0]; intro hh; omega
  · simp [Instr.sliceBounds, Instr.sliceBound, asIntOf, e1, e2]
  · simp [Instr.sliceBounds]

theorem flat_drop {sz : Nat} : ∀ {vs : List Value} (h : ∀ u ∈ vs, u.cells.size = sz) (k : Nat), flat (vs.drop k) = (flat vs).drop (k * sz)
  | vs, _, 0 => by simp
  | [], _, k + 1 => by simp [flat]
  | u :: us, h, k + 1 => by
    have hu := h u (by simp)
    have ih := flat_drop (fun x (hx : x ∈ us) => h x (by simp [hx])) k
    have e1 : (k + 1) * sz = u.cells.toList.length + k * sz := by simp [hu, Nat.add_mul]; omega
    simp only [List.drop_succ_cons, flat, List.flatMap_cons] at ih ⊢
    rw [e1, List.drop_length_add_append, ih]
theorem flat_take {sz : Nat} : ∀ {vs : List Value} (h : ∀ u ∈ vs, u.cells.size = sz) (k : Nat), flat (vs.take k) = (flat vs).take (k * sz)
  | vs, _, 0 => by simp [flat]
  | [], _, k + 1 => by simp [flat]
  | u :: us, h, k + 1 => by
    have hu := h u (by simp)
    have ih := flat_take (fun x (hx : x ∈ us) => h x (by simp [hx])) k
    have e1 : (k + 1) * sz = u.cells.toList.length + k * sz := by simp [hu, Nat.add_mul]; omega
    simp only [List.take_succ_cons, flat, List.flatMap_cons] at ih ⊢
    rw [e1, List.take_length_add_append, ih]

theorem RowAt.front {w : World} {b o n : Nat} {vs : List Value} (h : RowAt w b o vs) : RowAt w b o (vs.take n) := by
  intro j c hj
  rw [List.getElem?_take] at hj
  split at hj
  · exact h j c hj
  · cases hj
theorem RowAt.rear {w : World} {b o k : Nat} {vs : List Value} (h : RowAt w b o vs) : RowAt w b (o + k) (vs.drop k) := by
  intro j c hj
  rw [List.getElem?_drop] at hj
  have := h _ c hj
  rwa [Nat.add_assoc]

/-- A part of a frozen slice. -/
theorem sl_part {E : Env} {xs : List AV} {t t' : Tail} {a : Option Addr} {n cap l h sz0 : Nat} (hx : Rep E (.sl xs t) (.slice a n cap)) (h1 : l ≤ h) (h2 : h ≤ xs.length)
    (hsz : ∀ b o sz vs, a = some ⟨b, o, none⟩ → xs ≠ [] → RepL E xs vs → (∀ u ∈ vs, u.cells.size = sz) → sz = sz0)
    (ht : t' = .shut ∨ (t' = .full ∧ t = .full ∧ h = xs.length)) :
    Rep E (.sl ((xs.take h).drop l) t') (.slice (if cap = l then a else a.map (·.add (l * sz0))) (h - l) (cap - l)) := by
  have hnt : ∀ k, t' ≠ .tok k := by rcases ht with rfl | ⟨rfl, _⟩ <;> simp
  by_cases hle : h ≤ l
  · have e : (xs.take h).drop l = [] := List.drop_eq_nil_of_le (by simp; omega)
    rw [e, show h - l = 0 from by omega]
    refine .slE _ _ (fun hf => ?_) hnt
    rcases ht with rfl | ⟨_, rfl, hh⟩
    · cases hf
    · cases hx with
      | slE a cap g1 _ => have := g1 rfl; omega
      | sl b o cap sz g0 g1 g2 g3 g4 g5 g6 g7 => have : cap = xs.length := g7; omega
  · cases hx with
    | slE a cap g1 _ => simp at h2; omega
    | @sl _ _ vs b o cap sz g0 g1 g2 g3 g4 g5 g6 g7 =>
      obtain rfl := hsz b o sz vs rfl g0 g1 g2
      have hl := g1.length
      rw [if_neg (by omega)]
      simp only [Option.map_some, add_lit0]
      have hne : (xs.take h).drop l ≠ [] := by
        intro e
        have := congrArg List.length e
        simp at this; omega
      have hlen : ((xs.take h).drop l).length = h - l := by simp; omega
      have hmul : l * sz + (h - l) * sz = h * sz := by rw [← Nat.add_mul]; congr 1; omega
      have hmul2 : h * sz ≤ xs.length * sz := Nat.mul_le_mul_right sz h2
      have hrow : RowAt E.w b (o + l * sz) (flat ((vs.take h).drop l)) := by
        rw [flat_drop (fun u hu => g2 u (List.mem_of_mem_take hu)), flat_take g2]
        exact g4.front.rear
      have hfin := Rep.sl (E := E) (t := t') b (o + l * sz) (cap - l) sz hne ((g1.take h).drop l) (fun u hu => g2 u (List.mem_of_mem_take (List.mem_of_mem_drop hu))) g3 hrow
        (g5.down (by rw [hlen]; omega)) (by rw [hlen]; omega) (by
          rcases ht with rfl | ⟨rfl, rfl, hh⟩
          · trivial
          · have : cap = xs.length := g7
            show cap - l = _
            rw [hlen]; omega)
      rwa [hlen] at hfin

/-- How a type of strings or slices meets a value. -/
def SlcFit (P : Program) (t : TypeId) (sz : Nat) : AV → Prop
  | .v _ => P.underlying t = some .string
  | .sl _ _ | .lsl _ _ _ _ => ∃ e, P.underlying t = some (.slice e) ∧ szOf P e = some sz
  | _ => True

theorem optRep {E : Env} {lo : Option AV} {lov : Option Value} (h : lo.isSome = lov.isSome) (hr : ∀ a v, lo = some a → lov = some v → Rep E a v) {d : Int} {k : IntKind} {l : Int}
    (hl : lo.getD (.v (.int .i64 d)) = .v (.int k l)) : lov = some (.int k l) ∨ (lov = none ∧ l = d) := by
  cases lo with
  | none =>
    cases lov with
    | none => simp at hl; exact .inr ⟨rfl, hl.2.symm⟩
    | some v => simp at h
  | some a =>
    cases lov with
    | none => simp at h
    | some v =>
      simp at hl; subst hl
      exact .inl (by rw [rep_v (hr _ _ rfl rfl)])

theorem done_slc {E : Env} (r : R E) {t : TypeId} {sz : Nat} {x : AV} {u : Value} (hx : Rep E x u) (hfit : SlcFit P t sz x) {lo hi : Option AV} {lov hiv : Option Value}
    (hl1 : lo.isSome = lov.isSome) (hl2 : ∀ a v, lo = some a → lov = some v → Rep E a v) (hh1 : hi.isSome = hiv.isSome) (hh2 : ∀ a v, hi = some a → hiv = some v → Rep E a v)
    (hok : (evSlc sz E.O E.G lo hi x).ok) : Done E (evSlc sz E.O E.G lo hi x) ((Instr.sliceAt t u lov hiv none).run P E.w) := by
  unfold evSlc at hok ⊢
  split at hok
  · rename_i s
    have hu : P.underlying t = some .string := hfit
    obtain rfl := rep_v hx
    split at hok
    · rename_i kl l kh h e1 e2
      obtain ⟨h0, h1, h2⟩ := hok
      have hb := run_bounds (P := P) (isS := false) (cap := s.size) lov hiv (optRep hl1 hl2 e1) (optRep hh1 hh2 e2) h0 h1 h2 (Nat.le_refl _) E.w
      refine Done.same r ?_ (.v _)
      simp [Instr.sliceAt, Instr.slice, run_underlying hu, hb]
    · exact hok.elim
  · rename_i xs tl
    obtain ⟨e, hu, hsz⟩ := hfit
    have key : ∀ (l h : Int) (t' : Tail), 0 ≤ l → l ≤ h → h ≤ xs.length → (∀ x ∈ xs, szOK sz x = true) → (t' = .shut ∨ (t' = .full ∧ tl = .full ∧ h = xs.length)) →
        (∀ n cap, n = xs.length → n ≤ cap → (Instr.sliceBounds true n cap lov hiv none).run P E.w = .ok (l.toNat, h.toNat, cap) E.w) →
        ∃ v, (Instr.sliceAt t u lov hiv none).run P E.w = .ok v E.w ∧ Rep E (.sl ((xs.take h.toNat).drop l.toNat) t') v := by
      intro l h t' h0 h1 h2 hs ht hb
      have hcase : ∃ a n cap, u = .slice a n cap ∧ n = xs.length ∧ n ≤ cap := by
        cases hx with
        | slE a cap _ _ => exact ⟨a, 0, cap, rfl, rfl, Nat.zero_le _⟩
        | sl b o cap sz' g0 g1 g2 g3 g4 g5 g6 g7 => exact ⟨_, _, cap, rfl, rfl, g6⟩
      obtain ⟨a, n, cap, rfl, hn, hc⟩ := hcase
      refine ⟨.slice (if cap = l.toNat then a else a.map (·.add (l.toNat * sz))) (h.toNat - l.toNat) (cap - l.toNat), ?_, ?_⟩
      · simp [Instr.sliceAt, Instr.slice, run_underlying hu, hb n cap hn hc, run_sizeOf_of hsz]
      · refine sl_part hx (by omega) (by omega) ?_ ?_
        · intro b o sz' vs hab hne hrep hv
          obtain ⟨y, ys, rfl⟩ := List.exists_cons_of_ne_nil hne
          cases hrep with
          | cons hy _ =>
            rw [← (hy.cells (hs y (by simp))).1]
            exact (hv _ (by simp)).symm
        · rcases ht with ht | ⟨e1, e2, e3⟩
          · exact .inl ht
          · exact .inr ⟨e1, e2, by omega⟩
    split at hok
    · rename_i kl l e1 
      obtain ⟨h0, h1, h2⟩ := hok
      obtain ⟨v, k1, k2⟩ := key l xs.length tl.noTok h0 h1 (Int.le_refl _) h2 (by cases tl <;> simp [Tail.noTok]) (fun n cap hn hc => by
        subst hn
        exact run_bounds (kh := .i64) lov hiv (optRep hl1 hl2 e1) (.inr ⟨by cases hiv <;> simp at hh1 ⊢, rfl⟩) h0 h1 (Int.le_refl _) hc E.w)
      refine Done.same r k1 ?_
      simpa using k2
    · rename_i kl l kh h e1
      obtain ⟨h0, h1, h2, h3⟩ := hok
      obtain ⟨v, k1, k2⟩ := key l h .shut h0 h1 h2 h3 (.inl rfl) (fun n cap hn hc => by
        subst hn
        exact run_bounds lov hiv (optRep hl1 hl2 e1) (.inl ((optRep (d := 0) hh1 hh2 (k := kh) (l := h) (by simp)).resolve_right (by rintro ⟨hn, _⟩; rw [hn] at hh1; simp at hh1))) h0 h1 h2 hc E.w)
      exact Done.same r k1 k2
    · exact hok.elim
  · rename_i b g off len
    obtain ⟨e, hu, hsz⟩ := hfit
    cases hx with
    | lsl h _ =>
      obtain ⟨sz', h0, xs, ho, hg, hy⟩ := h
      simp only [ho] at hok ⊢
      split at hok
      · rename_i sz2 g2 xs2 kl l kh h e0 e1 e2
        injection e0 with e0; injection e0 with q1 q2 q3
        subst q1; subst q2; subst q3
        obtain ⟨c0, c1, c2, rfl, rfl⟩ := hok
        have hb : ∀ n cap, n = len → n ≤ cap → (Instr.sliceBounds true n cap lov hiv none).run P E.w = .ok (l.toNat, h.toNat, cap) E.w := by
          intro n cap hn hc
          subst hn
          exact run_bounds lov hiv (optRep hl1 hl2 e1) (optRep hh1 hh2 e2) c0 c1 c2 hc E.w
        rcases hy rfl with ⟨rfl, a, rfl⟩ | ⟨bb, cur, e', cap, p1, p2, rfl, p4, p5⟩
        · have h00 : h.toNat = 0 := by omega
          have l00 : l.toNat = 0 := by omega
          refine Done.same r (v := .slice a 0 0) ?_ ?_
          · simp [Instr.sliceAt, Instr.slice, run_underlying hu, hb 0 0 rfl (Nat.le_refl _), run_sizeOf_of hsz, h00, l00]
          · exact .lsl ⟨sz', h0, xs, ho, Nat.le_refl _, fun _ => .inl ⟨by omega, a, rfl⟩⟩ rfl
        · by_cases hcl : cap = l.toNat
          · subst hcl
            refine Done.same r (v := .slice (some ⟨bb, off * sz', none⟩) (h.toNat - l.toNat) (l.toNat - l.toNat)) ?_ ?_
            · simp [Instr.sliceAt, Instr.slice, run_underlying hu, hb len l.toNat rfl p4, run_sizeOf_of hsz]
            · have z1 : h.toNat - l.toNat = 0 := by omega
              have z2 : l.toNat - l.toNat = 0 := by omega
              rw [z1, z2]
              exact .lsl ⟨sz', h0, xs, ho, Nat.le_refl _, fun _ => .inl ⟨rfl, _, rfl⟩⟩ rfl
          · refine Done.same r (v := .slice (some ⟨bb, (off + l.toNat) * sz', none⟩) (h.toNat - l.toNat) (cap - l.toNat)) ?_ ?_
            · simp [Instr.sliceAt, Instr.slice, run_underlying hu, hb len cap rfl p4, run_sizeOf_of hsz, hcl, add_lit0, Nat.add_mul]
            · exact .lsl ⟨sz', h0, xs, ho, Nat.le_refl _, fun _ => .inr ⟨bb, cur, e', cap - l.toNat, p1, p2, rfl, by omega, by rw [p5]; congr 1; omega⟩⟩ rfl
      · exact hok.elim
  · exact hok.elim
end
end Go.VL
