/- Value logic, part 19b: looks that a write, an append or a new entry does not change. -/
import Derived.Test.YtohccdodnpkpfaaVl19
set_option linter.unusedVariables false
set_option linter.unusedSimpArgs false
namespace Go.VL
open Go.RowKit

/-- What looks at memory does not look at tokens. -/
theorem ev_k1_G {T : Tmps} {op : PK} (hk : op.kind = 1) {O : List AO} {G : List Nat} (hok : (ev T O G op).ok) (G2 : List Nat) :
    (ev T O G2 op).ok ∧ (ev T O G2 op).a = (ev T O G op).a ∧ (ev T O G2 op).O = O ∧ (ev T O G2 op).G = G2 := by
  cases op <;> simp [PK.kind] at hk <;> dsimp only [ev, Rs.chk] at hok ⊢
  case load n ag x =>
    unfold evLoad at hok ⊢
    split at hok
    · split at hok
      · exact ⟨hok, rfl, rfl, rfl⟩
      · exact hok.elim
    · exact ⟨hok, rfl, rfl, rfl⟩
    · split at hok
      · exact ⟨hok, rfl, rfl, rfl⟩
      · exact hok.elim
    · exact hok.elim
  case loadB n ag x bs =>
    obtain ⟨hc, hok⟩ := hok
    refine (fun k => ⟨⟨hc, k.1⟩, k.2⟩) (?_ : _ ∧ _)
    unfold evLoad at hok ⊢
    split at hok
    · split at hok
      · exact ⟨hok, rfl, rfl, rfl⟩
      · exact hok.elim
    · exact ⟨hok, rfl, rfl, rfl⟩
    · split at hok
      · exact ⟨hok, rfl, rfl, rfl⟩
      · exact hok.elim
    · exact hok.elim
  case nilc x =>
    unfold evNilc at hok ⊢
    split at hok
    · exact ⟨hok, rfl, rfl, rfl⟩
    · exact ⟨hok, rfl, rfl, rfl⟩
    · split at hok
      · exact ⟨hok, rfl, rfl, rfl⟩
      · exact hok.elim
    · exact hok.elim
  case slc sz x lo hi =>
    obtain ⟨hc, hok⟩ := hok
    refine (fun k => ⟨⟨hc, k.1⟩, k.2⟩) (?_ : _ ∧ _)
    unfold evSlc at hok ⊢
    split at hok
    · split at hok
      · exact ⟨hok, rfl, rfl, rfl⟩
      · exact hok.elim
    · split at hok
      · exact ⟨hok, rfl, rfl, rfl⟩
      · exact ⟨hok, rfl, rfl, rfl⟩
      · exact hok.elim
    · split at hok
      · exact ⟨hok, rfl, rfl, rfl⟩
      · exact hok.elim
    · exact hok.elim
  case fad x off =>
    unfold evFad at hok ⊢
    split at hok
    · split at hok
      · exact ⟨hok, rfl, rfl, rfl⟩
      · exact hok.elim
    · exact ⟨hok, rfl, rfl, rfl⟩
    · split at hok
      · exact ⟨hok, rfl, rfl, rfl⟩
      · exact hok.elim
    · exact hok.elim
  case iad sz x i =>
    unfold evIad at hok ⊢
    split at hok
    · exact ⟨hok, rfl, rfl, rfl⟩
    · split at hok
      · exact ⟨hok, rfl, rfl, rfl⟩
      · exact hok.elim
    · exact hok.elim
  case aad len sz x i =>
    unfold evAad at hok ⊢
    split at hok
    · split at hok
      · exact ⟨hok, rfl, rfl, rfl⟩
      · exact hok.elim
    · exact ⟨hok, rfl, rfl, rfl⟩
    · exact hok.elim
  case look ks z okk m k =>
    unfold evLook at hok ⊢
    split at hok
    · split at hok
      · split at hok
        · exact ⟨hok, rfl, rfl, rfl⟩
        · exact ⟨hok, rfl, rfl, rfl⟩
        · exact hok.elim
      · exact hok.elim
    · exact hok.elim
  case len kd x =>
    obtain ⟨hc, hok⟩ := hok
    refine (fun k => ⟨⟨hc, k.1⟩, k.2⟩) (?_ : _ ∧ _)
    unfold evLen at hok ⊢
    split at hok
    · exact ⟨hok, rfl, rfl, rfl⟩
    · exact ⟨hok, rfl, rfl, rfl⟩
    · split at hok
      · exact ⟨hok, rfl, rfl, rfl⟩
      · exact hok.elim
    · split at hok
      · exact ⟨hok, rfl, rfl, rfl⟩
      · exact hok.elim
    · exact hok.elim

/-- Places keep their kinds, and all but the cells and elements. -/
structure Shp (O O2 : List AO) : Prop where
  cells : ∀ (l : Nat) (cs : List AV), O[l]? = some (AO.cells cs) → ∃ cs', O2[l]? = some (AO.cells cs')
  arr : ∀ (l sz g : Nat) (xs : List AV), O[l]? = some (AO.arr sz g xs) → ∃ xs', O2[l]? = some (AO.arr sz g xs')
  map : ∀ (l g : Nat) (es : List (Value × AV)), O[l]? = some (AO.map g es) → O2[l]? = some (AO.map g es)

theorem ev_k1_shape {T : Tmps} {op : PK} (hk : op.kind = 1) (hl : ∀ n ag x, op ≠ .load n ag x) (hl' : ∀ n ag x bs, op ≠ .loadB n ag x bs) {O O2 : List AO} (hs : Shp O O2) {G : List Nat} (hok : (ev T O G op).ok) :
    (ev T O2 G op).ok ∧ (ev T O2 G op).a = (ev T O G op).a ∧ (ev T O2 G op).O = O2 ∧ (ev T O2 G op).G = G := by
  cases op <;> simp [PK.kind] at hk <;> dsimp only [ev, Rs.chk] at hok ⊢
  case load n ag x => exact absurd rfl (hl n ag x)
  case loadB n ag x bs => exact absurd rfl (hl' n ag x bs)
  case nilc x =>
    unfold evNilc at hok ⊢
    split at hok
    · exact ⟨hok, rfl, rfl, rfl⟩
    · exact ⟨hok, rfl, rfl, rfl⟩
    · split at hok
      · rename_i h; obtain ⟨xs', h'⟩ := hs.arr _ _ _ _ h; rw [h']; exact ⟨hok, rfl, rfl, rfl⟩
      · exact hok.elim
    · exact hok.elim
  case slc sz x lo hi =>
    obtain ⟨hc, hok⟩ := hok
    refine (fun k => ⟨⟨hc, k.1⟩, k.2⟩) (?_ : _ ∧ _)
    unfold evSlc at hok ⊢
    split at hok
    · split at hok
      · exact ⟨hok, rfl, rfl, rfl⟩
      · exact hok.elim
    · split at hok
      · exact ⟨hok, rfl, rfl, rfl⟩
      · exact ⟨hok, rfl, rfl, rfl⟩
      · exact hok.elim
    · split at hok
      · rename_i h h2 h3; obtain ⟨xs', h'⟩ := hs.arr _ _ _ _ h; rw [h', h2, h3]; exact ⟨hok, rfl, rfl, rfl⟩
      · exact hok.elim
    · exact hok.elim
  case fad x off =>
    unfold evFad at hok ⊢
    split at hok
    · split at hok
      · rename_i h; obtain ⟨xs', h'⟩ := hs.cells _ _ h; rw [h']; exact ⟨hok, rfl, rfl, rfl⟩
      · exact hok.elim
    · exact ⟨hok, rfl, rfl, rfl⟩
    · split at hok
      · rename_i h; obtain ⟨xs', h'⟩ := hs.arr _ _ _ _ h; rw [h']; exact ⟨hok, rfl, rfl, rfl⟩
      · exact hok.elim
    · exact hok.elim
  case iad sz x i =>
    unfold evIad at hok ⊢
    split at hok
    · exact ⟨hok, rfl, rfl, rfl⟩
    · split at hok
      · rename_i h; obtain ⟨xs', h'⟩ := hs.arr _ _ _ _ h; rw [h']; exact ⟨hok, rfl, rfl, rfl⟩
      · exact hok.elim
    · exact hok.elim
  case aad len sz x i =>
    unfold evAad at hok ⊢
    split at hok
    · split at hok
      · rename_i h; obtain ⟨xs', h'⟩ := hs.cells _ _ h; rw [h']; exact ⟨hok, rfl, rfl, rfl⟩
      · exact hok.elim
    · exact ⟨hok, rfl, rfl, rfl⟩
    · exact hok.elim
  case look ks z okk m k =>
    unfold evLook at hok ⊢
    split at hok
    · split at hok
      · rename_i h hkey
        rw [hs.map _ _ _ h, hkey]
        dsimp only
        split at hok
        · exact ⟨hok, rfl, rfl, rfl⟩
        · exact ⟨hok, rfl, rfl, rfl⟩
        · exact hok.elim
      · exact hok.elim
    · exact hok.elim
  case len kd x =>
    obtain ⟨hc, hok⟩ := hok
    refine (fun k => ⟨⟨hc, k.1⟩, k.2⟩) (?_ : _ ∧ _)
    unfold evLen at hok ⊢
    split at hok
    · exact ⟨hok, rfl, rfl, rfl⟩
    · exact ⟨hok, rfl, rfl, rfl⟩
    · split at hok
      · rename_i h; obtain ⟨xs', h'⟩ := hs.arr _ _ _ _ h; rw [h']; exact ⟨hok, rfl, rfl, rfl⟩
      · exact hok.elim
    · split at hok
      · rename_i h; rw [hs.map _ _ _ h]; exact ⟨hok, rfl, rfl, rfl⟩
      · exact hok.elim
    · exact hok.elim

/-- What a write does to memory. -/
theorem evStore_spec {n : Nat} {O : List AO} {G : List Nat} {x a : AV} (hok : (evStore n O G x a).ok) :
    Shp O (evStore n O G x a).O ∧ (evStore n O G x a).G = G ∧
      ((∃ (l off : Nat) (cs : List AV), a = .ref l off ∧ O[l]? = some (AO.cells cs) ∧ ∀ k, k ≠ l → (evStore n O G x a).O[k]? = O[k]?) ∨ (∃ (l g i off sz g' : Nat) (xs : List AV), a = .er l g i off ∧ O[l]? = some (AO.arr sz g' xs) ∧ ∀ k, k ≠ l → (evStore n O G x a).O[k]? = O[k]?)) := by
  unfold evStore at hok ⊢
  split at hok
  · rename_i l off
    split at hok
    · rename_i cs h
      refine ⟨⟨fun k cs' hk => ?_, fun k sz g xs hk => ?_, fun k g es hk => ?_⟩, rfl, .inl ⟨l, off, cs, rfl, h, fun k hk => List.getElem?_set_ne (Ne.symm hk)⟩⟩
      · by_cases e : k = l
        · subst e; exact ⟨_, get_set_self h⟩
        · exact ⟨cs', (List.getElem?_set_ne (Ne.symm e)).trans hk⟩
      · have e : k ≠ l := by rintro rfl; rw [h] at hk; cases hk
        exact ⟨xs, (List.getElem?_set_ne (Ne.symm e)).trans hk⟩
      · have e : k ≠ l := by rintro rfl; rw [h] at hk; cases hk
        exact (List.getElem?_set_ne (Ne.symm e)).trans hk
    · exact hok.elim
  · rename_i l g i off
    split at hok
    · rename_i sz g' xs h
      obtain ⟨h1, rfl, h2⟩ := hok
      refine ⟨⟨fun k cs' hk => ?_, fun k sz2 g2 xs2 hk => ?_, fun k g es hk => ?_⟩, rfl, .inr ⟨l, _, i, off, sz, _, xs, rfl, h, fun k hk => List.getElem?_set_ne (Ne.symm hk)⟩⟩
      · have e : k ≠ l := by rintro rfl; rw [h] at hk; cases hk
        exact ⟨cs', (List.getElem?_set_ne (Ne.symm e)).trans hk⟩
      · by_cases e : k = l
        · subst e
          rw [h] at hk; injection hk with hk; injection hk with e1 e2 e3
          subst e1; subst e2
          exact ⟨_, get_set_self h⟩
        · exact ⟨xs2, (List.getElem?_set_ne (Ne.symm e)).trans hk⟩
      · have e : k ≠ l := by rintro rfl; rw [h] at hk; cases hk
        exact (List.getElem?_set_ne (Ne.symm e)).trans hk
    · exact hok.elim
  · exact hok.elim

theorem same_eq {T : Tmps} {x y : OD} (h : OD.same x y = true) : x = y := by
  cases x <;> cases y <;> simp [OD.same] at h
  subst h; rfl

theorem evLoad_other {n : Nat} {ag : Bool} {O O2 : List AO} {G : List Nat} {l off : Nat} (h : O2[l]? = O[l]?) (hok : (evLoad n ag O G (.ref l off)).ok) :
    (evLoad n ag O2 G (.ref l off)).ok ∧ (evLoad n ag O2 G (.ref l off)).a = (evLoad n ag O G (.ref l off)).a ∧ (evLoad n ag O2 G (.ref l off)).O = O2 ∧ (evLoad n ag O2 G (.ref l off)).G = G := by
  unfold evLoad at hok ⊢
  dsimp only at hok ⊢
  rw [h]
  split at hok
  · exact ⟨hok, rfl, rfl, rfl⟩
  · exact hok.elim

/-- A look and a write that does not change what it sees. -/
theorem rel_store {T : Tmps} {x i : PK} (hr : relS x i = true) (hk : x.kind = 1) {O : List AO} {G : List Nat} (hx : (ev T O G x).ok) (hi : (ev T O G i).ok) :
    (ev T (ev T O G i).O G x).ok ∧ (ev T (ev T O G i).O G x).a = (ev T O G x).a ∧ (ev T (ev T O G i).O G x).O = (ev T O G i).O ∧ (ev T (ev T O G i).O G x).G = G ∧ (ev T O G i).G = G := by
  have other : ∀ {n : Nat} {a y : OD}, (evStore n O G (y.ev T) (a.ev T)).ok → (∀ n ag z, x ≠ .load n ag z) → (∀ m ag z bs, x = .loadB m ag z bs → ∀ l off, z.ev T = .ref l off → (evStore n O G (y.ev T) (a.ev T)).O[l]? = O[l]?) →
      (ev T (evStore n O G (y.ev T) (a.ev T)).O G x).ok ∧ (ev T (evStore n O G (y.ev T) (a.ev T)).O G x).a = (ev T O G x).a ∧ (ev T (evStore n O G (y.ev T) (a.ev T)).O G x).O = (evStore n O G (y.ev T) (a.ev T)).O ∧ (ev T (evStore n O G (y.ev T) (a.ev T)).O G x).G = G := by
    intro n a y hst hnl hlb
    by_cases hb : ∃ m ag z bs, x = .loadB m ag z bs
    · obtain ⟨m, ag, z, bs, rfl⟩ := hb
      have hxx := hx
      dsimp only [ev, Rs.chk] at hxx ⊢
      have hcond := hxx.1
      unfold condB at hcond
      split at hcond
      · rename_i l off hz
        have := evLoad_other (n := m) (ag := ag) (G := G) (off := off) (hlb m ag z bs rfl l off hz) (by rw [← hz]; exact hxx.2)
        rw [hz]
        exact ⟨⟨hxx.1, this.1⟩, this.2⟩
      · rename_i v off hz
        rw [hz] at hxx ⊢
        exact ⟨hxx, rfl, rfl, rfl⟩
      · cases hcond
    · exact ev_k1_shape hk hnl (fun m ag z bs e => hb ⟨m, ag, z, bs, e⟩) (evStore_spec hst).1 hx
  cases i <;> simp only [relS] at hr <;> try (cases hr; done)
  case storeE n a y =>
    dsimp only [ev, Rs.chk] at hi ⊢
    have hsp := evStore_spec hi.2
    have := other hi.2 (fun n ag z e => by subst e; simp at hr) (fun m ag z bs e l off hz => by
      subst e
      rcases hsp.2.2 with ⟨l', off', cs, ha, ho, hk⟩ | ⟨l', g, j, off', sz, g', xs, ha, ho, hk⟩
      · have := hi.1; rw [ha] at this; cases this
      · refine hk l ?_
        rintro rfl
        have hxx := hx
        dsimp only [ev, Rs.chk] at hxx
        have := hxx.2
        rw [hz] at this
        unfold evLoad at this
        dsimp only at this
        rw [ho] at this
        exact this.elim)
    exact ⟨this.1, this.2.1, this.2.2.1, this.2.2.2, hsp.2.1⟩
  case storeB n a y b =>
    dsimp only [ev, Rs.chk] at hi ⊢
    have hsp := evStore_spec hi.2
    have := other hi.2 (fun n ag z e => by subst e; simp at hr) (fun m ag z bs e l off hz => by
      subst e
      simp only [List.any_eq_true] at hr
      obtain ⟨b', hb', hsame⟩ := hr
      have hbb := same_eq (T := T) hsame
      subst hbb
      have hc := hi.1
      unfold condS at hc
      have hxx := hx
      dsimp only [ev, Rs.chk] at hxx
      have hcond := hxx.1
      unfold condB at hcond
      rw [hz] at hcond
      dsimp only at hcond
      rw [List.all_eq_true] at hcond
      have hcb := hcond _ hb'
      rcases hsp.2.2 with ⟨l', off', cs, ha, ho, hk⟩ | ⟨l', g, j, off', sz, g', xs, ha, ho, hk⟩
      · refine hk l ?_
        rintro rfl
        rw [ha, show refLoc (AV.ref l off') = some l from rfl] at hc
        cases hq : refLoc (OD.ev T b) with
        | none => rw [hq] at hc; cases hc
        | some l2 =>
          rw [hq] at hc hcb
          simp at hc hcb
          exact hcb hc.symm
      · rw [ha, show refLoc (AV.er l' g j off') = none from rfl] at hc
        cases hc)
    exact ⟨this.1, this.2.1, this.2.2.1, this.2.2.2, hsp.2.1⟩

/-! ### A look-up ahead of the entry that it looks for -/
theorem zEq1_eq {a b : AV} (h : zEq1 a b = true) : a = b := by
  unfold zEq1 at h
  split at h <;> simp at h
  · obtain ⟨rfl, rfl⟩ := h; rfl
  · rfl
  · subst h; rfl
  · rfl

theorem findM_snoc {ks : KS} {k : Value} {z : AV} (hkk : kEq ks k k = some true) : ∀ {es : List (Value × AV)}, findM ks k es = some none → findM ks k (es ++ [(k, z)]) = some (some z)
  | [], _ => by simp [findM, hkk]
  | (k', a) :: es, h => by
    simp only [findM] at h
    simp only [List.cons_append, findM]
    split at h
    · cases h
    · rename_i hq; exact findM_snoc hkk h
    · cases h

theorem keyVal_of_mk {ag : Bool} {a : AV} {x : Value} (hk : mkKey ag a = some x) : KeyVal ag x := by
  cases ag <;> cases a <;> simp [mkKey] at hk
  · obtain ⟨h1, rfl⟩ := hk
    exact ⟨fun e => (by cases e), fun _ => h1⟩
  · obtain ⟨l, h1, rfl⟩ := hk
    exact ⟨fun _ => ⟨l, rfl⟩, fun e => by cases e⟩

theorem rel_ment {ks : KS} {z : AV} {O : List AO} {G : List Nat} {m k : AV} (hx : (evLook ks z false O G m k).ok) (hi : (evMent ks z O G m k).ok) :
    (evLook ks z false (evMent ks z O G m k).O G m k).ok ∧ (evLook ks z false (evMent ks z O G m k).O G m k).a = (evLook ks z false O G m k).a ∧ (evLook ks z false (evMent ks z O G m k).O G m k).O = (evMent ks z O G m k).O ∧ (evLook ks z false (evMent ks z O G m k).O G m k).G = G ∧ (evMent ks z O G m k).G = G := by
  unfold evMent at hi ⊢
  unfold evLook at hx ⊢
  split at hi
  · rename_i l k'
    dsimp only at hi hx ⊢
    split at hi
    · rename_i g es kv ho hkv
      rw [ho, hkv] at hx
      dsimp only at hi hx ⊢
      split at hi
      · rename_i a hf
        rw [hf] at hx
        dsimp only at hx ⊢
        rw [ho, hkv]
        dsimp only
        rw [hf]
        exact ⟨hx, rfl, rfl, rfl, rfl⟩
      · rename_i hf
        rw [hf] at hx
        dsimp only at hx ⊢
        have hkk : kEq ks kv kv = some true := by
          cases hq : kEq ks kv kv with
          | none => rw [hq] at hi; simp at hi
          | some b =>
            have := (kEq_iff (keyVal_of_mk hkv) hq).2.2
            simp at this
            rw [this]
        rw [get_set_self ho, hkv]
        dsimp only
        rw [findM_snoc hkk hf]
        exact ⟨hx, rfl, rfl, rfl, rfl⟩
      · exact hi.elim
    · exact hi.elim
  · exact hi.elim
end Go.VL
