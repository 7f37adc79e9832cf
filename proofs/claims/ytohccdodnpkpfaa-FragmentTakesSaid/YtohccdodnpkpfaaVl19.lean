/- Value logic, part 19: operations that may change places. -/
import Derived.Test.YtohccdodnpkpfaaVl18
set_option linter.unusedVariables false
set_option linter.unusedSimpArgs false
namespace Go.VL
open Go.RowKit

def EqvT (T T' : Tmps) : Prop := ∀ n, get T n = get T' n
def QE (Q : Post) : Post := fun e T O G => ∃ T', EqvT T T' ∧ Q e T' O G
theorem EqvT.refl (T : Tmps) : EqvT T T := fun _ => rfl
theorem EqvT.symm {T T' : Tmps} (h : EqvT T T') : EqvT T' T := fun n => (h n).symm
theorem EqvT.trans {T T' T2 : Tmps} (h : EqvT T T') (h' : EqvT T' T2) : EqvT T T2 := fun n => (h n).trans (h' n)
theorem EqvT.cons {T T' : Tmps} (h : EqvT T T') (d : Nat) (a : AV) : EqvT ((d, a) :: T) ((d, a) :: T') := fun n => by simp only [get]; split; rfl; exact h n
theorem EqvT.put {T T' : Tmps} (h : EqvT T T') (d : Option Nat) (a : AV) : EqvT (put d a T) (put d a T') := by
  cases d with
  | none => exact h
  | some d => exact h.cons d a
theorem EqvT.od {T T' : Tmps} (h : EqvT T T') : OD.ev T = OD.ev T' := by
  funext x
  cases x with
  | k a => rfl
  | t n => exact h n
theorem RT.eqv {E : Env} {T T' : Tmps} {tm : Array Value} (h : RT E T tm) (e : EqvT T T') : RT E T' tm := fun n => e n ▸ h n

theorem ev_od {T T' : Tmps} {op : PK} (h : ∀ x ∈ op.ods, OD.ev T x = OD.ev T' x) (O : List AO) (G : List Nat) : ev T O G op = ev T' O G op := by
  have hm : ∀ {l : List OD}, (∀ x ∈ l, OD.ev T x = OD.ev T' x) → l.map (OD.ev T) = l.map (OD.ev T') := fun h => List.map_congr_left h
  cases op <;> simp only [PK.ods, List.mem_cons, List.not_mem_nil, or_false, forall_eq_or_imp, forall_eq, List.mem_append, List.mem_map] at h <;> simp only [ev, h]
  case build z ps =>
    have e1 : ∀ p ∈ ps, p.2.2.ev T = p.2.2.ev T' := fun p hp => h p.2.2 ⟨p, hp, rfl⟩
    have e2 : (ps.map fun p => (p.1, p.2.1, shut (p.2.2.ev T))) = ps.map fun p => (p.1, p.2.1, shut (p.2.2.ev T')) := List.map_congr_left fun p hp => by rw [e1 p hp]
    rw [e2]
    congr 1
    apply propext
    exact ⟨fun k p hp => by rw [← e1 p hp]; exact k p hp, fun k p hp => by rw [e1 p hp]; exact k p hp⟩
  case bsl sz xs =>
    rw [show (xs.map fun x => shut (x.ev T)) = xs.map fun x => shut (x.ev T') from List.map_congr_left fun x hx => by rw [h x hx]]
    congr 1
    apply propext
    exact ⟨fun k x hx => by rw [← h x hx]; exact k x hx, fun k x hx => by rw [h x hx]; exact k x hx⟩
  case bslA sz xs =>
    rw [show (xs.map fun x => shut (x.ev T)) = xs.map fun x => shut (x.ev T') from List.map_congr_left fun x hx => by rw [h x hx]]
    congr 1
    apply propext
    exact ⟨fun k x hx => by rw [← h x hx]; exact k x hx, fun k x hx => by rw [h x hx]; exact k x hx⟩
  case mkfn f xs ys =>
    rw [hm (l := xs) fun x hx => h x (.inl hx), hm (l := ys) fun x hx => h x (.inr hx)]
  case loadB n ag a bs =>
    have e : condB T a bs = condB T' a bs := by
      unfold condB
      rw [h.1]
      split
      · rw [Bool.eq_iff_iff, List.all_eq_true, List.all_eq_true]
        exact ⟨fun k b hb => by rw [← h.2 b hb]; exact k b hb, fun k b hb => by rw [h.2 b hb]; exact k b hb⟩
      · rfl
      · rfl
    rw [e]
  case storeB n a x b => simp only [condS, h]
  case slc sz x lo hi =>
    have e1 : lo.map (OD.ev T) = lo.map (OD.ev T') := by cases lo <;> simp; rename_i y; exact h.2 y (.inl (by simp))
    have e2 : hi.map (OD.ev T) = hi.map (OD.ev T') := by cases hi <;> simp; rename_i y; exact h.2 y (.inr (by simp))
    rw [e1, e2]

theorem ods_fit {T T' : Tmps} : ∀ {l : List OD}, (∀ n ∈ ODs.tmps l, get T n = get T' n) → ∀ x ∈ l, OD.ev T x = OD.ev T' x
  | [], _, x, hx => by simp at hx
  | .t n :: l, h, x, hx => by
    simp only [ODs.tmps, List.mem_cons, forall_eq_or_imp] at h
    rcases List.mem_cons.1 hx with rfl | hx
    · exact h.1
    · exact ods_fit h.2 x hx
  | .k a :: l, h, x, hx => by
    rcases List.mem_cons.1 hx with rfl | hx
    · rfl
    · exact ods_fit (l := l) h x hx

theorem chk_ok {r : Rs} {p : Prop} : (r.chk p).ok ↔ p ∧ r.ok := Iff.rfl

/-- What looks at slots alone. -/
theorem ev_k0 {T : Tmps} {op : PK} (hk : op.kind = 0) {O : List AO} {G : List Nat} (hok : (ev T O G op).ok) :
    (ev T O G op).O = O ∧ (ev T O G op).G = G ∧ ∀ O2 G2, (ev T O2 G2 op).ok ∧ (ev T O2 G2 op).a = (ev T O G op).a ∧ (ev T O2 G2 op).O = O2 ∧ (ev T O2 G2 op).G = G2 := by
  cases op <;> simp [PK.kind] at hk <;> dsimp only [ev] at hok ⊢
  case mov => exact ⟨rfl, rfl, fun _ _ => ⟨trivial, rfl, rfl, rfl⟩⟩
  case pick => exact ⟨rfl, rfl, fun _ _ => ⟨hok, rfl, rfl, rfl⟩⟩
  case build => exact ⟨rfl, rfl, fun _ _ => ⟨hok, rfl, rfl, rfl⟩⟩
  case bsl => exact ⟨rfl, rfl, fun _ _ => ⟨hok, rfl, rfl, rfl⟩⟩
  case mkfn => exact ⟨rfl, rfl, fun _ _ => ⟨trivial, rfl, rfl, rfl⟩⟩
  case mki => exact ⟨rfl, rfl, fun _ _ => ⟨trivial, rfl, rfl, rfl⟩⟩
  case bin o x y =>
    unfold evBin at hok ⊢
    split at hok
    · cases o <;> dsimp only [Rs.bad] at hok ⊢ <;> first | exact hok.elim | exact ⟨rfl, rfl, fun _ _ => ⟨hok, rfl, rfl, rfl⟩⟩
    · cases o <;> dsimp only [Rs.bad] at hok ⊢ <;> first | exact hok.elim | exact ⟨rfl, rfl, fun _ _ => ⟨hok, rfl, rfl, rfl⟩⟩
    · exact hok.elim
  case eq n ks x y =>
    unfold evEq at hok ⊢
    split at hok
    · split at hok
      · exact ⟨rfl, rfl, fun _ _ => ⟨hok, rfl, rfl, rfl⟩⟩
      · exact hok.elim
    · exact hok.elim
  case eqn n x y =>
    unfold evEqn at hok ⊢
    split at hok
    · exact ⟨rfl, rfl, fun _ _ => ⟨hok, rfl, rfl, rfl⟩⟩
    · exact hok.elim
  case un o x =>
    unfold evUn at hok ⊢
    split at hok
    · cases o <;> dsimp only [Rs.bad] at hok ⊢ <;> first | exact hok.elim | exact ⟨rfl, rfl, fun _ _ => ⟨hok, rfl, rfl, rfl⟩⟩
    · cases o <;> dsimp only [Rs.bad] at hok ⊢ <;> first | exact hok.elim | exact ⟨rfl, rfl, fun _ _ => ⟨hok, rfl, rfl, rfl⟩⟩
    · exact hok.elim
  case conv k x =>
    unfold evConv at hok ⊢
    split at hok
    · exact ⟨rfl, rfl, fun _ _ => ⟨hok, rfl, rfl, rfl⟩⟩
    · exact hok.elim
  case cstr x =>
    unfold evCstr at hok ⊢
    split at hok
    · exact ⟨rfl, rfl, fun _ _ => ⟨hok, rfl, rfl, rfl⟩⟩
    · exact hok.elim
  case fld x o n ag =>
    unfold evFld at hok ⊢
    split at hok
    · exact ⟨rfl, rfl, fun _ _ => ⟨hok, rfl, rfl, rfl⟩⟩
    · exact hok.elim
  case idx x i =>
    unfold evIdx at hok ⊢
    split at hok
    · exact ⟨rfl, rfl, fun _ _ => ⟨hok, rfl, rfl, rfl⟩⟩
    · exact hok.elim
  case ext t i =>
    split at hok
    · exact ⟨rfl, rfl, fun _ _ => ⟨hok, rfl, rfl, rfl⟩⟩
    · exact hok.elim
  case mm mx x y =>
    unfold evMM at hok ⊢
    split at hok
    · exact ⟨rfl, rfl, fun _ _ => ⟨hok, rfl, rfl, rfl⟩⟩
    · exact hok.elim

theorem get_snoc {O : List AO} {l : Nat} {x : AO} (h : O[l]? = some x) (o : AO) : (O ++ [o])[l]? = some x := by
  rw [List.getElem?_append_left (List.getElem?_eq_some_iff.1 h).1]; exact h

/-- What looks at memory. -/
theorem ev_k1 {T : Tmps} {op : PK} (hk : op.kind = 1) {O : List AO} {G : List Nat} (hok : (ev T O G op).ok) :
    (ev T O G op).O = O ∧ (ev T O G op).G = G ∧ ∀ o, (ev T (O ++ [o]) G op).ok ∧ (ev T (O ++ [o]) G op).a = (ev T O G op).a ∧ (ev T (O ++ [o]) G op).O = O ++ [o] ∧ (ev T (O ++ [o]) G op).G = G := by
  cases op <;> simp [PK.kind] at hk <;> dsimp only [ev] at hok ⊢
  case load n ag x =>
    unfold evLoad at hok ⊢
    split at hok
    · split at hok
      · rename_i h; refine ⟨rfl, rfl, fun o => ?_⟩; rw [get_snoc h o]; exact ⟨hok, rfl, rfl, rfl⟩
      · exact hok.elim
    · exact ⟨rfl, rfl, fun _ => ⟨hok, rfl, rfl, rfl⟩⟩
    · split at hok
      · rename_i h; refine ⟨rfl, rfl, fun o => ?_⟩; rw [get_snoc h o]; exact ⟨hok, rfl, rfl, rfl⟩
      · exact hok.elim
    · exact hok.elim
  case loadB n ag x bs =>
    dsimp only [Rs.chk] at hok ⊢
    refine (fun (k : (evLoad n ag O G (x.ev T)).O = O ∧ (evLoad n ag O G (x.ev T)).G = G ∧ ∀ o, (evLoad n ag (O ++ [o]) G (x.ev T)).ok ∧ (evLoad n ag (O ++ [o]) G (x.ev T)).a = (evLoad n ag O G (x.ev T)).a ∧ (evLoad n ag (O ++ [o]) G (x.ev T)).O = O ++ [o] ∧ (evLoad n ag (O ++ [o]) G (x.ev T)).G = G) => ⟨k.1, k.2.1, fun o => ⟨⟨hok.1, (k.2.2 o).1⟩, (k.2.2 o).2⟩⟩) ?_
    obtain ⟨hc, hok⟩ := hok
    unfold evLoad at hok ⊢
    split at hok
    · split at hok
      · rename_i h; refine ⟨rfl, rfl, fun o => ?_⟩; rw [get_snoc h o]; exact ⟨hok, rfl, rfl, rfl⟩
      · exact hok.elim
    · exact ⟨rfl, rfl, fun _ => ⟨hok, rfl, rfl, rfl⟩⟩
    · split at hok
      · rename_i h; refine ⟨rfl, rfl, fun o => ?_⟩; rw [get_snoc h o]; exact ⟨hok, rfl, rfl, rfl⟩
      · exact hok.elim
    · exact hok.elim
  case nilc x =>
    unfold evNilc at hok ⊢
    split at hok
    · exact ⟨rfl, rfl, fun _ => ⟨hok, rfl, rfl, rfl⟩⟩
    · exact ⟨rfl, rfl, fun _ => ⟨hok, rfl, rfl, rfl⟩⟩
    · split at hok
      · rename_i h; refine ⟨rfl, rfl, fun o => ?_⟩; rw [get_snoc h o]; exact ⟨hok, rfl, rfl, rfl⟩
      · exact hok.elim
    · exact hok.elim
  case slc sz x lo hi =>
    dsimp only [Rs.chk] at hok ⊢
    refine (fun (k : (evSlc sz O G (lo.map (OD.ev T)) (hi.map (OD.ev T)) (x.ev T)).O = O ∧ (evSlc sz O G (lo.map (OD.ev T)) (hi.map (OD.ev T)) (x.ev T)).G = G ∧ ∀ o, (evSlc sz (O ++ [o]) G (lo.map (OD.ev T)) (hi.map (OD.ev T)) (x.ev T)).ok ∧ (evSlc sz (O ++ [o]) G (lo.map (OD.ev T)) (hi.map (OD.ev T)) (x.ev T)).a = (evSlc sz O G (lo.map (OD.ev T)) (hi.map (OD.ev T)) (x.ev T)).a ∧ (evSlc sz (O ++ [o]) G (lo.map (OD.ev T)) (hi.map (OD.ev T)) (x.ev T)).O = O ++ [o] ∧ (evSlc sz (O ++ [o]) G (lo.map (OD.ev T)) (hi.map (OD.ev T)) (x.ev T)).G = G) => ⟨k.1, k.2.1, fun o => ⟨⟨hok.1, (k.2.2 o).1⟩, (k.2.2 o).2⟩⟩) ?_
    obtain ⟨hc, hok⟩ := hok
    unfold evSlc at hok ⊢
    split at hok
    · split at hok
      · exact ⟨rfl, rfl, fun _ => ⟨hok, rfl, rfl, rfl⟩⟩
      · exact hok.elim
    · split at hok
      · exact ⟨rfl, rfl, fun _ => ⟨hok, rfl, rfl, rfl⟩⟩
      · exact ⟨rfl, rfl, fun _ => ⟨hok, rfl, rfl, rfl⟩⟩
      · exact hok.elim
    · split at hok
      · rename_i h h2 h3; refine ⟨rfl, rfl, fun o => ?_⟩; rw [get_snoc h o, h2, h3]; exact ⟨hok, rfl, rfl, rfl⟩
      · exact hok.elim
    · exact hok.elim
  case fad x off =>
    unfold evFad at hok ⊢
    split at hok
    · split at hok
      · rename_i h; refine ⟨rfl, rfl, fun o => ?_⟩; rw [get_snoc h o]; exact ⟨hok, rfl, rfl, rfl⟩
      · exact hok.elim
    · exact ⟨rfl, rfl, fun _ => ⟨hok, rfl, rfl, rfl⟩⟩
    · split at hok
      · rename_i h; refine ⟨rfl, rfl, fun o => ?_⟩; rw [get_snoc h o]; exact ⟨hok, rfl, rfl, rfl⟩
      · exact hok.elim
    · exact hok.elim
  case iad sz x i =>
    unfold evIad at hok ⊢
    split at hok
    · exact ⟨rfl, rfl, fun _ => ⟨hok, rfl, rfl, rfl⟩⟩
    · split at hok
      · rename_i h; refine ⟨rfl, rfl, fun o => ?_⟩; rw [get_snoc h o]; exact ⟨hok, rfl, rfl, rfl⟩
      · exact hok.elim
    · exact hok.elim
  case aad len sz x i =>
    unfold evAad at hok ⊢
    split at hok
    · split at hok
      · rename_i h; refine ⟨rfl, rfl, fun o => ?_⟩; rw [get_snoc h o]; exact ⟨hok, rfl, rfl, rfl⟩
      · exact hok.elim
    · exact ⟨rfl, rfl, fun _ => ⟨hok, rfl, rfl, rfl⟩⟩
    · exact hok.elim
  case look ks z okk m k =>
    unfold evLook at hok ⊢
    split at hok
    · split at hok
      · rename_i h hkey
        split at hok
        · rename_i hf; refine ⟨rfl, rfl, fun o => ?_⟩; rw [get_snoc h o, hkey]; dsimp only; rw [hf]; exact ⟨hok, rfl, rfl, rfl⟩
        · rename_i hf; refine ⟨rfl, rfl, fun o => ?_⟩; rw [get_snoc h o, hkey]; dsimp only; rw [hf]; exact ⟨hok, rfl, rfl, rfl⟩
        · exact hok.elim
      · exact hok.elim
    · exact hok.elim
  case len kd x =>
    dsimp only [Rs.chk] at hok ⊢
    refine (fun (k : (evLen O G (x.ev T)).O = O ∧ (evLen O G (x.ev T)).G = G ∧ ∀ o, (evLen (O ++ [o]) G (x.ev T)).ok ∧ (evLen (O ++ [o]) G (x.ev T)).a = (evLen O G (x.ev T)).a ∧ (evLen (O ++ [o]) G (x.ev T)).O = O ++ [o] ∧ (evLen (O ++ [o]) G (x.ev T)).G = G) => ⟨k.1, k.2.1, fun o => ⟨⟨hok.1, (k.2.2 o).1⟩, (k.2.2 o).2⟩⟩) ?_
    obtain ⟨hc, hok⟩ := hok
    unfold evLen at hok ⊢
    split at hok
    · exact ⟨rfl, rfl, fun _ => ⟨hok, rfl, rfl, rfl⟩⟩
    · exact ⟨rfl, rfl, fun _ => ⟨hok, rfl, rfl, rfl⟩⟩
    · split at hok
      · rename_i h; refine ⟨rfl, rfl, fun o => ?_⟩; rw [get_snoc h o]; exact ⟨hok, rfl, rfl, rfl⟩
      · exact hok.elim
    · split at hok
      · rename_i h; refine ⟨rfl, rfl, fun o => ?_⟩; rw [get_snoc h o]; exact ⟨hok, rfl, rfl, rfl⟩
      · exact hok.elim
    · exact hok.elim

/-- What makes a new place. -/
theorem ev_k2 {T : Tmps} {op : PK} (hk : op.kind = 2) {O : List AO} {G : List Nat} : ∃ o, (ev T O G op).O = O ++ [o] ∧ (ev T O G op).G = G := by
  cases op <;> simp [PK.kind] at hk <;> exact ⟨_, rfl, rfl⟩
end Go.VL
