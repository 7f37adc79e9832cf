/- Fragment: plain facts on fragments of a frame, and that a state stays good. -/
import Derived.Test.YtohccdodnpkpfaaFr3
set_option linter.unusedVariables false
set_option linter.unusedSimpArgs false
namespace Go.VL.Try
open Go.RowKit

theorem insI_spec (l : List Frag) (f : Frag) : ∀ n, n ≤ l.length → insI l f n ≤ n ∧ (∀ i, insI l f n ≤ i → i < n → f.part < (l.getD i default).part) ∧ (insI l f n = 0 ∨ ∃ j, insI l f n = j + 1 ∧ ¬ f.part < (l.getD j default).part)
  | 0, _ => ⟨Nat.le_refl _, fun i h1 h2 => by omega, .inl rfl⟩
  | n + 1, h => by
    simp only [insI]
    split
    · rename_i hlt
      obtain ⟨h1, h2, h3⟩ := insI_spec l f n (by omega)
      refine ⟨by omega, fun i hi hn => ?_, h3⟩
      by_cases e : i = n
      · subst e; exact hlt
      · exact h2 i hi (by omega)
    · rename_i hlt
      exact ⟨Nat.le_refl _, fun i h1 h2 => by omega, .inr ⟨n, rfl, hlt⟩⟩

theorem ins_split (l : List Frag) (f : Frag) : ∃ A B, l = A ++ B ∧ ins l f = A ++ f :: B ∧ (∀ x ∈ B, f.part < x.part) ∧ (A = [] ∨ ∃ A' a, A = A' ++ [a] ∧ ¬ f.part < a.part) := by
  obtain ⟨h1, h2, h3⟩ := insI_spec l f l.length (Nat.le_refl _)
  refine ⟨l.take (insI l f l.length), l.drop (insI l f l.length), (List.take_append_drop _ _).symm, rfl, ?_, ?_⟩
  · intro x hx
    obtain ⟨i, hi, rfl⟩ := List.getElem_of_mem hx
    rw [List.getElem_drop]
    have := h2 (insI l f l.length + i) (by omega) (by simp at hi; omega)
    rwa [List.getD_eq_getElem?_getD, List.getElem?_eq_getElem (by simp at hi; omega)] at this
  · rcases h3 with h | ⟨j, hj, hn⟩
    · left; rw [h]; rfl
    · right
      have hjl : j < l.length := by omega
      refine ⟨l.take j, l[j], ?_, ?_⟩
      · rw [hj, List.take_succ_eq_append_getElem hjl]
      · rwa [List.getD_eq_getElem?_getD, List.getElem?_eq_getElem hjl] at hn

theorem ins_sorted {l : List Frag} {f : Frag} (hs : l.Pairwise fun a b => a.part < b.part) (hn : l.any (·.part == f.part) = false) : (ins l f).Pairwise fun a b => a.part < b.part := by
  obtain ⟨A, B, rfl, e, hB, hA⟩ := ins_split l f
  rw [e]
  rw [List.pairwise_append] at hs
  obtain ⟨s1, s2, s3⟩ := hs
  have hne : ∀ x ∈ A ++ B, x.part ≠ f.part := by
    intro x hx e
    have : (A ++ B).any (·.part == f.part) = true := List.any_eq_true.2 ⟨x, hx, by simpa using e⟩
    rw [this] at hn; cases hn
  have hAf : ∀ x ∈ A, x.part < f.part := by
    intro x hx
    rcases hA with rfl | ⟨A', a, rfl, ha⟩
    · simp at hx
    · have h1 := hne a (by simp)
      rcases List.mem_append.1 hx with hx | hx
      · have := (List.pairwise_append.1 s1).2.2 x hx a (by simp)
        omega
      · obtain rfl : x = a := by simpa using hx
        omega
  rw [List.pairwise_append]
  refine ⟨s1, List.pairwise_cons.2 ⟨hB, s2⟩, ?_⟩
  intro x hx y hy
  rcases List.mem_cons.1 hy with rfl | hy
  · exact hAf x hx
  · exact s3 x hx y hy

theorem mem_ins {l : List Frag} {f x : Frag} : x ∈ ins l f ↔ x = f ∨ x ∈ l := by
  obtain ⟨A, B, rfl, e, _, _⟩ := ins_split l f
  rw [e]; simp only [List.mem_append, List.mem_cons]
  constructor
  · rintro (h | h | h)
    · exact .inr (.inl h)
    · exact .inl h
    · exact .inr (.inr h)
  · rintro (h | h | h)
    · exact .inr (.inl h)
    · exact .inl h
    · exact .inr (.inr h)

theorem bytesAt_ins {l : List Frag} {f : Frag} (hn : l.any (·.part == f.part) = false) (i : Nat) : bytesAt (ins l f) i = if (i : Int) = f.part then f.bytes else bytesAt l i := by
  obtain ⟨A, B, rfl, e, _, _⟩ := ins_split l f
  rw [e]
  unfold bytesAt
  rw [List.find?_append, List.find?_append, List.find?_cons]
  by_cases h : (i : Int) = f.part
  · rw [if_pos h]
    have hA : A.find? (fun x => x.part == (i : Int)) = none := by
      rw [List.find?_eq_none]
      intro x hx he
      have : (A ++ B).any (·.part == f.part) = true := List.any_eq_true.2 ⟨x, by simp [hx], by rw [← h]; exact he⟩
      rw [this] at hn; cases hn
    rw [hA]
    have : (f.part == (i : Int)) = true := by simpa using h.symm
    rw [this]
    rfl
  · rw [if_neg h]
    have : (f.part == (i : Int)) = false := by simpa using Ne.symm h
    rw [this]

theorem slots_ins {o : Opn} {f : Frag} (hn : o.l.any (·.part == f.part) = false) (h0 : 0 ≤ f.part) : (slots o).set f.part.toNat f.bytes = slots { o with l := ins o.l f } := by
  unfold slots
  apply List.ext_getElem
  · simp
  · intro i h1 h2
    simp only [List.length_set, List.length_map, List.length_range] at h1
    rw [List.getElem_set]
    simp only [List.getElem_map, List.getElem_range]
    rw [bytesAt_ins hn]
    by_cases e : f.part.toNat = i
    · rw [if_pos e, if_pos (by omega)]
    · rw [if_neg e, if_neg (by omega)]

theorem parts_all {L : List Frag} {n : Int} (hs : L.Pairwise fun a b => a.part < b.part) (h : ∀ x ∈ L, 0 ≤ x.part ∧ x.part < n) (hl : (L.length : Int) = n) : ∀ i (hi : i < L.length), L[i].part = i := by
  have gap : ∀ d i (h2 : i + d < L.length), L[i].part + d ≤ L[i + d].part := by
    intro d
    induction d with
    | zero => intro i h2; simp
    | succ d ih =>
      intro i h2
      have h1 := ih i (by omega)
      have h3 := List.pairwise_iff_getElem.1 hs (i + d) (i + (d + 1)) (by omega) h2 (by omega)
      omega
  intro i hi
  have lo := gap i 0 (by omega)
  have h0 := (h L[0] (List.getElem_mem _)).1
  have hi' := gap (L.length - 1 - i) i (by omega)
  have h1 := (h (L[i + (L.length - 1 - i)]'(by omega)) (List.getElem_mem _)).2
  have e : L[0 + i] = L[i] := by congr 1; omega
  rw [e] at lo
  omega

theorem slots_full {o : Opn} (hs : o.l.Pairwise fun a b => a.part < b.part) (h : ∀ x ∈ o.l, 0 ≤ x.part ∧ x.part < o.parts) (hl : (o.l.length : Int) = o.parts) : slots o = o.l.map (·.bytes) := by
  have hp := parts_all hs h hl
  unfold slots
  apply List.ext_getElem
  · simp; omega
  · intro i h1 h2
    simp only [List.length_map] at h2
    simp only [List.getElem_map, List.getElem_range]
    unfold bytesAt
    have hi := hp i h2
    cases hf : o.l.find? (fun x => x.part == (i : Int)) with
    | none =>
      rw [List.find?_eq_none] at hf
      exact absurd (by simpa using hi) (hf o.l[i] (List.getElem_mem _))
    | some x =>
      have hx := List.mem_of_find?_eq_some hf
      have hxp := List.find?_some hf
      obtain ⟨j, hj, rfl⟩ := List.getElem_of_mem hx
      have := hp j hj
      have e : j = i := by
        have : o.l[j].part = (i : Int) := by simpa using hxp
        omega
      subst e; rfl

theorem cat_join (l : List Frag) : Lib.join ((l.map (·.bytes)).map (·.data.toList)) [] = (cat l).data.toList := by
  have key : ∀ (l : List Frag) (s : ByteArray), (l.foldl (fun s x => s ++ x.bytes) s).data.toList = s.data.toList ++ (l.map fun x => x.bytes.data.toList).flatten := by
    intro l
    induction l with
    | nil => intro s; simp
    | cons x l ih =>
      intro s
      rw [List.foldl_cons, ih]
      simp [ByteArray.data_append, List.append_assoc]
  have := key l ⟨#[]⟩
  unfold cat
  rw [this]
  have e : ∀ L : List (List UInt8), Lib.join L [] = L.flatten := by
    intro L
    cases L with
    | nil => rfl
    | cons x r => rw [Lib.join_cons]; simp [Lib.joinTail]
  rw [e]
  simp
  rfl

/-! ### A state stays good -/
theorem put8_good {N : Nat} {s : St} {k : Nat} {f : Frag} (hg : Good N s) (hk : k < s.opn.length) (hok : f.ok = true) (hp : s.opn[k].parts = f.parts) (hn : s.opn[k].l.any (·.part == f.part) = false) (hf : f.bytes.size ≤ 100) : Good (N + 1) (put8 s k s.opn[k] f).1 := by
  have hog := hg.each _ (List.getElem_mem hk)
  obtain ⟨p0, p1⟩ := ok_part hok
  have hb : f.bytes.size ≠ 0 := by
    intro e
    simp only [Frag.ok, Bool.and_eq_true, Bool.not_eq_true'] at hok
    have h2 := hok.2
    have : f.bytes = ⟨#[]⟩ := ByteArray.ext (Array.eq_empty_of_size_eq_zero e)
    rw [this] at h2
    exact absurd h2 (by decide)
  unfold put8
  dsimp only
  split
  · rename_i hlt
    refine ⟨by simp; exact hg.len, by have := hg.don; simp; omega, ?_, ?_⟩
    · intro o ho
      rcases List.mem_or_eq_of_mem_set ho with ho | rfl
      · exact hg.each o ho
      · refine ⟨hog.parts1, hog.parts2, hlt, ?_, ins_sorted hog.sorted hn⟩
        intro x hx
        rcases mem_ins.1 hx with rfl | hx
        · exact ⟨p0, by dsimp only; omega, hb, hf⟩
        · exact hog.each x hx
    · have hu := hg.uniq
      rw [List.pairwise_iff_getElem] at hu ⊢
      intro i j hi hj hij
      simp only [List.length_set] at hi hj
      have := hu i j hi hj hij
      rw [List.getElem_set, List.getElem_set]
      split <;> split <;> simp_all
  · refine ⟨by have := hg.len; simp; omega, by have := hg.don; simp; omega, ?_, ?_⟩
    · intro o ho
      rcases List.mem_append.1 ho with ho | ho
      · exact hg.each o (List.mem_of_mem_take ho)
      · exact hg.each o (List.mem_of_mem_drop ho)
    · have hu := hg.uniq
      have hs : (s.opn.take k ++ s.opn.drop (k + 1)).Sublist s.opn := by
        have h1 : (s.opn.drop (k + 1)).Sublist (s.opn.drop k) := by
          rw [show k + 1 = k + 1 from rfl, ← List.drop_drop]
          exact List.drop_sublist _ _
        have := List.Sublist.append (List.Sublist.refl (s.opn.take k)) h1
        rwa [List.take_append_drop] at this
      exact hu.sublist hs

theorem step_good {N : Nat} {s : St} {f : Frag} (hg : Good N s) (hf : f.bytes.size ≤ 100) : Good (N + 1) (s.step f).1 := by
  have up : Good (N + 1) s := ⟨hg.len, by have := hg.don; omega, hg.each, hg.uniq⟩
  unfold St.step
  split
  · exact up
  · rename_i hok
    have hok : f.ok = true := by simpa using hok
    split
    · exact up
    · split
      · rename_i k hfd
        have hk := (List.findIdx?_eq_some_iff_getElem.1 hfd).1
        rw [List.getElem?_eq_getElem hk]
        dsimp only
        split
        · rename_i hp
          split
          · exact up
          · rename_i hn
            exact put8_good hg hk hok hp (by simpa using hn) hf
        · exact up
      · rename_i hfd
        split
        · exact up
        · rename_i hlt
          have hnew : Good N ⟨s.opn ++ [⟨f.fr, f.num, f.parts, []⟩], s.don⟩ := by
            obtain ⟨p0, p1⟩ := ok_part hok
            have p2 : 1 ≤ f.parts ∧ f.parts ≤ 1000 := by
              simp only [Frag.ok, Bool.and_eq_true, decide_eq_true_eq] at hok
              exact ⟨hok.1.1.1.1.2, hok.1.1.1.2⟩
            refine ⟨by simp; omega, hg.don, ?_, ?_⟩
            · intro o ho
              rcases List.mem_append.1 ho with ho | ho
              · exact hg.each o ho
              · obtain rfl : o = _ := by simpa using ho
                exact ⟨p2.1, p2.2, by simp; omega, by simp, List.Pairwise.nil⟩
            · rw [List.pairwise_append]
              refine ⟨hg.uniq, List.pairwise_singleton _ _, ?_⟩
              intro a ha b hb
              obtain rfl : b = _ := by simpa using hb
              rw [List.findIdx?_eq_none_iff] at hfd
              have := hfd a ha
              simpa [Opn.is] using this
          have hk : s.opn.length < (s.opn ++ [(⟨f.fr, f.num, f.parts, []⟩ : Opn)]).length := by simp
          have e : (s.opn ++ [(⟨f.fr, f.num, f.parts, []⟩ : Opn)])[s.opn.length] = ⟨f.fr, f.num, f.parts, []⟩ := by simp
          have := put8_good hnew hk hok (by rw [e]) (by rw [e]; rfl) hf
          rwa [e] at this
end Go.VL.Try
