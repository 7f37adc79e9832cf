/- For every list of fragments, and of small numbers, the program's joiner and the document's answer alike: no condition. -/
import Derived.Test.YtohccdodnpkpfaaRows
import Derived.Test.YtohccdodnpkpfaaFr7
import Derived.Test.YtohccdodnpkpfaaVl28
import Derived.Test.YtohccdodnpkpfaaShelf
import Derived.WalkKit
import Derived.ProofKit
import Derived.OpenShut
set_option linter.unusedVariables false
set_option linter.unusedSimpArgs false
namespace Go.Proofs.Ytohccdodnpkpfaa
open Go.ChangeShapes Go.WideShapes Go.ChangeAt Go.RowKit Go.VL Go.VL.Try

theorem own : ownKnob Try.prog.godebug = none := by kernel_rfl
theorem laid : laidOutB Try.prog = true := by kernel_rfl
theorem mixed : Try.prog.follows .mixedOrders = true := by kernel_rfl
theorem body3 : HasBody Try.prog 3 := ⟨Try.f3, by kernel_rfl, by kernel_rfl, by kernel_rfl⟩
theorem body4 : HasBody Try.prog 4 := ⟨Try.f4, by kernel_rfl, by kernel_rfl, by kernel_rfl⟩
theorem body12 : HasBody Try.prog 12 := ⟨Try.f12, by kernel_rfl, by kernel_rfl, by kernel_rfl⟩
theorem joined : JoinAt Try.prog 12 := fun hl sep h1 h2 => join_pq body12 Try.strings_Join_none Try.strings_Join hl sep h1 h2

theorem takes (fs : List Frag) (t : Tail) : PCall Try.prog 3 [.sl (fs.map Frag.av) t] [] [] fun r _ _ => r = boo true :=
  law3 mixed joined at6 at9 at10 at17 at11 at7 at5 at13 at14 at15 at16 at8 at3 fs t
theorem small (fs : List Bit) (t : Tail) (wide : Bool) : PCall Try.prog 4 [.sl (fs.map Bit.av) t, boo wide] [] [] fun r _ _ => r = boo true :=
  law4 mixed joined at6 at9 at10 at17 at11 at7 at5 at13 at14 at15 at16 at8 at4 fs t wide

/-! ### What came in -/
def Frag.vals (f : Frag) : List Value := [.int .i64 f.fr, .int .i64 f.num, .int .i64 f.part, .int .i64 f.parts, .string f.bytes]
def Bit.vals (f : Bit) : List Value := [.int .u8 f.fr, .int .u8 f.num, .int .u8 f.part, .int .u8 f.parts]

theorem five {l : List Value} (h : l.length = 5) : ∃ a b c d e, l = [a, b, c, d, e] := by
  match l, h with
  | [a, b, c, d, e], _ => exact ⟨a, b, c, d, e, rfl⟩
theorem four {l : List Value} (h : l.length = 4) : ∃ a b c d, l = [a, b, c, d] := by
  match l, h with
  | [a, b, c, d], _ => exact ⟨a, b, c, d, rfl⟩

section
variable {H : Type} {enc : TypeId × Value → H}
theorem open_frags {W : World} {v : Value} {d : DataW H} {p : List MemPlace} (hv : ∃ a len cap, v = .slice a len cap) (h : DataW.Trod enc Try.prog W 0 (fun _ => true) true 22 v d p) : ∃ fs : List Frag, Rep (Env.start W) (.sl (fs.map Frag.av) .shut) v := by
  rcases open_rows Try.underlying22 Try.underlying32 (by
      intro j f hj
      match j, hj with
      | 0, hj | 1, hj | 2, hj | 3, hj | 4, hj => injection hj with hj; subst hj; exact ⟨rfl, by kernel_rfl⟩
      | j + 5, hj => simp at hj) (by kernel_rfl) (by decide) hv h with ⟨a, cap, rfl⟩ | ⟨b, o, cap, rows, rfl, hc, hb, hne, hrow, hall⟩
  · exact ⟨[], .slE a cap (by simp) (by simp)⟩
  · obtain ⟨fs, rfl, -⟩ := exists_map (f := Frag.vals) (Q := fun _ => True) (l := rows) (fun row hr => by
      obtain ⟨hl, hf⟩ := hall row hr
      obtain ⟨a, b, c, d, e, rfl⟩ := five hl
      obtain ⟨x0, n0, y0, e0, t0⟩ := hf 0 _ rfl
      obtain ⟨x1, n1, y1, e1, t1⟩ := hf 1 _ rfl
      obtain ⟨x2, n2, y2, e2, t2⟩ := hf 2 _ rfl
      obtain ⟨x3, n3, y3, e3, t3⟩ := hf 3 _ rfl
      obtain ⟨x4, n4, y4, e4, t4⟩ := hf 4 _ rfl
      injection e0 with e0; injection e1 with e1; injection e2 with e2; injection e3 with e3; injection e4 with e4
      subst e0; subst e1; subst e2; subst e3; subst e4
      obtain ⟨z0, q0, -, -⟩ := DataW.trod_int Try.underlying3 t0
      obtain ⟨z1, q1, -, -⟩ := DataW.trod_int Try.underlying3 t1
      obtain ⟨z2, q2, -, -⟩ := DataW.trod_int Try.underlying3 t2
      obtain ⟨z3, q3, -, -⟩ := DataW.trod_int Try.underlying3 t3
      obtain ⟨z4, q4, -, -⟩ := DataW.trod_string Try.underlying9 t4
      injection q0 with q0; injection q1 with q1; injection q2 with q2; injection q3 with q3; injection q4 with q4
      exact ⟨⟨z0, z1, z2, z3, z4⟩, by rw [q0, q1, q2, q3, q4]; rfl, trivial⟩)
    refine ⟨fs, ?_⟩
    rw [List.length_map] at hc ⊢
    exact rep_rows (sz := 5) (vals := Frag.vals) (av := fun f => [i64 f.fr, i64 f.num, i64 f.part, i64 f.parts, str f.bytes]) (fun E f => .cons (.v _) (.cons (.v _) (.cons (.v _) (.cons (.v _) (.cons (.v _) .nil))))) (fun f u hu => by
      simp [Frag.vals] at hu; rcases hu with rfl | rfl | rfl | rfl | rfl <;> rfl) (fun _ => rfl) (by decide) (by intro e; subst e; exact hne rfl) hc hb hrow

theorem open_bits {W : World} {v : Value} {d : DataW H} {p : List MemPlace} (hv : ∃ a len cap, v = .slice a len cap) (h : DataW.Trod enc Try.prog W 0 (fun _ => true) true 38 v d p) : ∃ fs : List Bit, Rep (Env.start W) (.sl (fs.map Bit.av) .shut) v := by
  rcases open_rows Try.underlying38 Try.underlying40 (by
      intro j f hj
      match j, hj with
      | 0, hj | 1, hj | 2, hj | 3, hj => injection hj with hj; subst hj; exact ⟨rfl, by kernel_rfl⟩
      | j + 4, hj => simp at hj) (by kernel_rfl) (by decide) hv h with ⟨a, cap, rfl⟩ | ⟨b, o, cap, rows, rfl, hc, hb, hne, hrow, hall⟩
  · exact ⟨[], .slE a cap (by simp) (by simp)⟩
  · obtain ⟨fs, rfl, -⟩ := exists_map (f := Bit.vals) (Q := fun _ => True) (l := rows) (fun row hr => by
      obtain ⟨hl, hf⟩ := hall row hr
      obtain ⟨a, b, c, d, rfl⟩ := four hl
      obtain ⟨x0, n0, y0, e0, t0⟩ := hf 0 _ rfl
      obtain ⟨x1, n1, y1, e1, t1⟩ := hf 1 _ rfl
      obtain ⟨x2, n2, y2, e2, t2⟩ := hf 2 _ rfl
      obtain ⟨x3, n3, y3, e3, t3⟩ := hf 3 _ rfl
      injection e0 with e0; injection e1 with e1; injection e2 with e2; injection e3 with e3
      subst e0; subst e1; subst e2; subst e3
      obtain ⟨z0, q0, -, -⟩ := DataW.trod_int Try.underlying5 t0
      obtain ⟨z1, q1, -, -⟩ := DataW.trod_int Try.underlying5 t1
      obtain ⟨z2, q2, -, -⟩ := DataW.trod_int Try.underlying5 t2
      obtain ⟨z3, q3, -, w3⟩ := DataW.trod_int Try.underlying5 t3
      injection q0 with q0; injection q1 with q1; injection q2 with q2; injection q3 with q3
      have w3 : 0 ≤ z3 ∧ z3 ≤ 255 := by
        simp only [Lit.wf, Bool.and_eq_true, decide_eq_true_eq] at w3
        exact ⟨w3.1, w3.2⟩
      exact ⟨⟨z0, z1, z2, z3, w3.1, w3.2⟩, by rw [q0, q1, q2, q3]; rfl, trivial⟩)
    refine ⟨fs, ?_⟩
    rw [List.length_map] at hc ⊢
    exact rep_rows (sz := 4) (vals := Bit.vals) (av := fun f => [u8 f.fr, u8 f.num, u8 f.part, u8 f.parts]) (fun E f => .cons (.v _) (.cons (.v _) (.cons (.v _) (.cons (.v _) .nil)))) (fun f u hu => by
      simp [Bit.vals] at hu; rcases hu with rfl | rfl | rfl | rfl <;> rfl) (fun _ => rfl) (by decide) (by intro e; subst e; exact hne rfl) hc hb hrow
end

theorem taken (os : Os) (started : os.Started) (H : Type) (enc : TypeId × Value → H) :
    ReturnsInHanded {} Try.checked os 3 .any (Rows.fragmentTakesSpec.pre6 enc Try.prog Try.f3 Rows.fragmentTakesRow.domain false) (Rows.fragmentTakesSpec.post enc Try.prog Try.f3 false true false false) := by
  refine returnsInHanded_of_change (C := Try.checked) own started (by kernel_rfl) Try.func3
    (ChangeSpec.witness6 (enc := enc) (C := Try.checked) false ⟨#[], #[.slice none 0 0], []⟩ 8 (by kernel_rfl) (by kernel_rfl) (by kernel_rfl) (by kernel_rfl)) ?_
  intro W base args ds gs before hval0 hW hcnd _
  have hval : ∀ (j : Nat) t v, Try.f3.params[j]? = some t → args[j]? = some v → Value.okWide Try.prog W .any base t v := hval0
  have hW' := hW
  obtain ⟨p, q, hA0, hV, rfl, hfz, hnd⟩ := hW
  have hA : DataW.TrodAll enc Try.prog W 0 (fun _ => true) true Try.f3.params.toList args.toList ds p := hA0
  rw [Try.params3] at hA hval
  obtain ⟨v0, vs0, d0, ds0, p0, q0, hargs, rfl, rfl, h0, r0⟩ := trodAll_cons hA
  obtain ⟨rfl, rfl, rfl⟩ := trodAll_nil r0
  obtain rfl : args = #[v0] := by cases args; simp_all
  have hv := okWide_slice Try.underlying22 (hval 0 22 v0 rfl rfl)
  obtain ⟨fs, hrep⟩ := open_frags hv h0
  refine (PCall.law body3 (takes fs .shut) (vs := [v0]) (.cons hrep .nil)).mono fun e W' ⟨he, hb⟩ => ?_
  exact ⟨_, he, law_post laid (by decide +kernel) Try.underlying4 (by kernel_rfl) rfl rfl rfl rfl hW' hb⟩

theorem takes_holds : Rows.FragmentTakesSaid :=
  OpenClaim.holds_of_wide 3 Try.f3 rfl rfl rfl rfl rfl rfl rfl ⟨rfl, rfl, rfl, rfl, rfl⟩ rfl rfl rfl rfl rfl (by kernel_rfl) Try.func3 (by kernel_rfl)
    (of_decide_eq_true (by kernel_rfl)) (by unfold Func.isWrapper; first | (rw [if_pos (by decide +kernel)]; kernel_rfl) | (rw [if_neg (by decide +kernel)]; exact ⟨rfl, rfl⟩))
    (fun os started H enc _ => taken os started H enc)

theorem smalled (os : Os) (started : os.Started) (H : Type) (enc : TypeId × Value → H) :
    ReturnsInHanded {} Try.checked os 4 .any (Rows.fragmentSmallSpec.pre6 enc Try.prog Try.f4 Rows.fragmentSmallRow.domain false) (Rows.fragmentSmallSpec.post enc Try.prog Try.f4 false true false false) := by
  refine returnsInHanded_of_change (C := Try.checked) own started (by kernel_rfl) Try.func4
    (ChangeSpec.witness6 (enc := enc) (C := Try.checked) false ⟨#[], #[.slice none 0 0, .bool false], []⟩ 8 (by kernel_rfl) (by kernel_rfl) (by kernel_rfl) (by kernel_rfl)) ?_
  intro W base args ds gs before hval0 hW hcnd _
  have hval : ∀ (j : Nat) t v, Try.f4.params[j]? = some t → args[j]? = some v → Value.okWide Try.prog W .any base t v := hval0
  have hW' := hW
  obtain ⟨p, q, hA0, hV, rfl, hfz, hnd⟩ := hW
  have hA : DataW.TrodAll enc Try.prog W 0 (fun _ => true) true Try.f4.params.toList args.toList ds p := hA0
  rw [Try.params4] at hA hval
  obtain ⟨v0, vs0, d0, ds0, p0, q0, hargs, rfl, rfl, h0, r0⟩ := trodAll_cons hA
  obtain ⟨v1, vs1, d1, ds1, p1, q1, rfl, rfl, rfl, h1, r1⟩ := trodAll_cons r0
  obtain ⟨rfl, rfl, rfl⟩ := trodAll_nil r1
  obtain rfl : args = #[v0, v1] := by cases args; simp_all
  have hv := okWide_slice Try.underlying38 (hval 0 38 v0 rfl rfl)
  obtain ⟨fs, hrep⟩ := open_bits hv h0
  obtain ⟨wide, rfl⟩ := okWide_bool Try.underlying4 (hval 1 4 v1 rfl rfl)
  refine (PCall.law body4 (small fs .shut wide) (vs := [v0, .bool wide]) (.cons hrep (.cons (.v _) .nil))).mono fun e W' ⟨he, hb⟩ => ?_
  exact ⟨_, he, law_post laid (by decide +kernel) Try.underlying4 (by kernel_rfl) rfl rfl rfl rfl hW' hb⟩

theorem small_holds : Rows.FragmentSmallSaid :=
  OpenClaim.holds_of_wide 4 Try.f4 rfl rfl rfl rfl rfl rfl rfl ⟨rfl, rfl, rfl, rfl, rfl⟩ rfl rfl rfl rfl rfl (by kernel_rfl) Try.func4 (by kernel_rfl)
    (of_decide_eq_true (by kernel_rfl)) (by unfold Func.isWrapper; first | (rw [if_pos (by decide +kernel)]; kernel_rfl) | (rw [if_neg (by decide +kernel)]; exact ⟨rfl, rfl⟩))
    (fun os started H enc _ => smalled os started H enc)
#print axioms takes_holds
#print axioms small_holds
end Go.Proofs.Ytohccdodnpkpfaa
