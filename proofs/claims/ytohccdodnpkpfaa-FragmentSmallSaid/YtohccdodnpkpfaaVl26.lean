/- Value logic, part 26: how a function is reckoned: loops by what holds at each round's head, calls that stop the reckoning, and what is rewritten. -/
import Derived.Test.YtohccdodnpkpfaaVl25
set_option linter.unusedVariables false
set_option linter.unusedSimpArgs false
namespace Go.VL
open Go.RowKit

/-- A loop: what holds at the head of each round, and a measure. -/
theorem pe_loop' {C : CallSem} (hC : CMono C) {a : PCd} {Q : Post} {T : Tmps} {O : List AO} {G : List Nat} (I : Nat → Tmps → List AO → List Nat → Prop) (n : Nat) (h0 : I n T O G)
    (hr : ∀ n T O G, I n T O G → pe C a (LoopK (fun T' O' G' => ∃ m, m < n ∧ I m T' O' G') Q) T O G) : pe C (.loop a) Q T O G := by
  have up : ∀ (k j : Nat) T O G, k ≤ j → rounds (pe C a) Q k T O G → rounds (pe C a) Q j T O G := by
    intro k
    induction k with
    | zero => intro j T O G _ h; exact h.elim
    | succ k ihk =>
      intro j T O G hj h
      obtain ⟨j, rfl⟩ : ∃ i, j = i + 1 := ⟨j - 1, by omega⟩
      refine pe_mono hC ?_ h
      rintro e T' O' G' hq
      cases e <;> try exact hq
      obtain ⟨T1, hw1, hq⟩ := hq
      exact ⟨T1, hw1, ihk j T1 O' G' (by omega) hq⟩
  have key : ∀ n T O G, I n T O G → rounds (pe C a) Q (n + 1) T O G := by
    intro n
    induction n using Nat.strongRecOn with
    | _ n ih =>
      intro T O G h
      refine pe_mono hC ?_ (hr n T O G h)
      rintro e T' O' G' hq
      cases e <;> try exact hq
      obtain ⟨T'', hw', m, hm, hI⟩ := hq
      exact ⟨T'', hw', up (m + 1) n T'' O' G' (by omega) (ih m hm T'' O' G' hI)⟩
  exact ⟨n + 1, key n T O G h0⟩

def agree : Tmps → Tmps → Prop
  | [], _ => True
  | (k, a) :: r, T => a = get T k ∧ agree r T
theorem wk_of {T T' : Tmps} (h : agree T' T) : Wk T T' := by
  intro n
  induction T' with
  | nil => exact .inl rfl
  | cons x r ih =>
    obtain ⟨k, a⟩ := x
    simp only [get]
    split
    · rename_i e; subst e; exact .inr h.1
    · exact ih h.2
/-- A round's end. -/
theorem loopK_next {I : Tmps → List AO → List Nat → Prop} {Q : Post} {T : Tmps} {O : List AO} {G : List Nat} (T' : Tmps) (h : agree T' T) (hI : I T' O G) : LoopK I Q .normal T O G := ⟨T', wk_of h, hI⟩

/-! ### What an operation does, told so that it may be rewritten -/
def okParts (n : Nat) (T : Tmps) : List (Nat × Nat × OD) → Prop
  | [] => True
  | (o, s, x) :: r => (szOK s (OD.ev T x) = true ∧ o + s ≤ n) ∧ okParts n T r
def okAll (sz : Nat) (T : Tmps) : List OD → Prop
  | [] => True
  | x :: r => szOK sz (OD.ev T x) = true ∧ okAll sz T r
theorem okParts_iff {n : Nat} {T : Tmps} : ∀ {ps : List (Nat × Nat × OD)}, (∀ p ∈ ps, szOK p.2.1 (p.2.2.ev T) = true ∧ p.1 + p.2.1 ≤ n) = okParts n T ps
  | [] => by simp [okParts]
  | (o, s, x) :: r => by simp only [okParts, List.forall_mem_cons, okParts_iff]
theorem okAll_iff {sz : Nat} {T : Tmps} : ∀ {xs : List OD}, (∀ x ∈ xs, szOK sz (OD.ev T x) = true) = okAll sz T xs
  | [] => by simp [okAll]
  | x :: r => by simp only [okAll, List.forall_mem_cons, okAll_iff]
/-- Every element has this size. -/
def allSz (sz : Nat) (xs : List AV) : Prop := ∀ x ∈ xs, szOK sz x = true
theorem allSz_nil {sz : Nat} : allSz sz [] = True := by simp [allSz]
theorem allSz_cons {sz : Nat} {x : AV} {xs : List AV} : allSz sz (x :: xs) = (szOK sz x = true ∧ allSz sz xs) := by simp [allSz]
theorem allSz_append {sz : Nat} {xs ys : List AV} : allSz sz (xs ++ ys) = (allSz sz xs ∧ allSz sz ys) := by simp only [allSz, List.forall_mem_append]
theorem allSz_map {α : Type} {sz : Nat} {f : α → AV} (h : ∀ a, szOK sz (f a) = true) (l : List α) : allSz sz (l.map f) := by
  intro x hx
  obtain ⟨a, _, rfl⟩ := List.mem_map.1 hx
  exact h a
def evSlc' (sz : Nat) (O : List AO) (G : List Nat) (lo hi : Option AV) : AV → Rs
  | .v (.string s) => match (lo.getD (.v (.int .i64 0))), (hi.getD (.v (.int .i64 s.size))) with
    | .v (.int _ l), .v (.int _ h) => ⟨0 ≤ l ∧ l ≤ h ∧ h ≤ s.size, .v (.string (s.extract l.toNat h.toNat)), O, G⟩
    | _, _ => .bad
  | .sl xs t => match (lo.getD (.v (.int .i64 0))), hi with
    | .v (.int _ l), none => ⟨0 ≤ l ∧ l ≤ xs.length ∧ allSz sz xs, .sl (xs.drop l.toNat) t.noTok, O, G⟩
    | .v (.int _ l), some (.v (.int _ h)) => ⟨0 ≤ l ∧ l ≤ h ∧ h ≤ xs.length ∧ allSz sz xs, .sl ((xs.take h.toNat).drop l.toNat) .shut, O, G⟩
    | _, _ => .bad
  | .lsl b g off len => match O[b]?, (lo.getD (.v (.int .i64 0))), (hi.getD (.v (.int .i64 len))) with
    | some (.arr sz' g' _), .v (.int _ l), .v (.int _ h) => ⟨0 ≤ l ∧ l ≤ h ∧ h ≤ len ∧ sz' = sz ∧ g' = g, .lsl b g (off + l.toNat) (h.toNat - l.toNat), O, G⟩
    | _, _, _ => .bad
  | _ => .bad
def evApp' (sz bytes : Nat) (O : List AO) (G : List Nat) (x y : AV) : Rs :=
  match elemsOf O y with
  | none => .bad
  | some ys => match x with
    | .sl xs t => match t with
      | .full => ⟨allSz sz xs ∧ allSz sz ys ∧ (xs.length + ys.length) * bytes ≤ 140737488355328 ∧ xs.length + ys.length ≤ 140737488355328,
          if ys.isEmpty then .sl xs .full else .sl (xs ++ ys) (.tok G.length), O, if ys.isEmpty then G else G ++ [(xs.length + ys.length) * sz]⟩
      | .tok n => ⟨G[n]? = some (xs.length * sz) ∧ allSz sz xs ∧ allSz sz ys ∧ (xs.length + ys.length) * bytes ≤ 140737488355328 ∧ xs.length + ys.length ≤ 140737488355328,
          .sl (xs ++ ys) (.tok n), O, G.set n ((xs.length + ys.length) * sz)⟩
      | .shut => .bad
    | .lsl l g off n => match O[l]? with
      | some (.arr sz' g' xs) => ⟨sz' = sz ∧ g' = g ∧ off = 0 ∧ n ≤ xs.length ∧ allSz sz xs ∧ allSz sz ys ∧ (n + ys.length) * bytes ≤ 140737488355328 ∧ n + ys.length ≤ 140737488355328,
          if ys.isEmpty then .lsl l g 0 n else .lsl l (g + 1) 0 (n + ys.length), if ys.isEmpty then O else O.set l (.arr sz (g + 1) (xs.take n ++ ys)), G⟩
      | _ => .bad
    | _ => .bad
theorem evSlc_eq : evSlc = evSlc' := rfl
theorem evApp_eq : evApp = evApp' := rfl
theorem ev_mov {T : Tmps} {O : List AO} {G : List Nat} {x : OD} : ev T O G (.mov x) = ⟨True, x.ev T, O, G⟩ := rfl
theorem ev_newnil {T : Tmps} {O : List AO} {G : List Nat} {sz : Nat} : ev T O G (.newnil sz) = ⟨0 < sz, .lsl O.length 0 0 0, O ++ [.arr sz 0 []], G⟩ := rfl
theorem ev_pick {T : Tmps} {O : List AO} {G : List Nat} {c : OD} {a : OD} {b : OD} : ev T O G (.pick c a b) = ⟨∃ t, c.ev T = .v (.bool t), evPick (c.ev T) (a.ev T) (b.ev T), O, G⟩ := rfl
theorem ev_alloc {T : Tmps} {O : List AO} {G : List Nat} {cs : List AV} : ev T O G (.alloc cs) = ⟨True, .ref O.length 0, O ++ [.cells cs], G⟩ := rfl
theorem ev_box {T : Tmps} {O : List AO} {G : List Nat} {n : Nat} {x : OD} : ev T O G (.box n x) = ⟨szOK n (x.ev T), .ref O.length 0, O ++ [.cells (x.ev T).cells], G⟩ := rfl
theorem ev_build {T : Tmps} {O : List AO} {G : List Nat} {zero : List AV} {parts : List (Nat × Nat × OD)} : ev T O G (.build zero parts) = ⟨okParts zero.length T parts, evBuild zero (parts.map fun p => (p.1, p.2.1, shut (p.2.2.ev T))), O, G⟩ := by simp only [ev, okParts_iff, okAll_iff]
theorem ev_bsl {T : Tmps} {O : List AO} {G : List Nat} {sz : Nat} {xs : List OD} : ev T O G (.bsl sz xs) = ⟨okAll sz T xs, .sl (xs.map fun x => shut (x.ev T)) .full, O, G⟩ := by simp only [ev, okParts_iff, okAll_iff]
theorem ev_bslA {T : Tmps} {O : List AO} {G : List Nat} {sz : Nat} {xs : List OD} : ev T O G (.bslA sz xs) = ⟨okAll sz T xs, .lsl O.length 0 0 xs.length, O ++ [.arr sz 0 (xs.map fun x => shut (x.ev T))], G⟩ := by simp only [ev, okParts_iff, okAll_iff]
theorem ev_load {T : Tmps} {O : List AO} {G : List Nat} {n : Nat} {ag : Bool} {a : OD} : ev T O G (.load n ag a) = evLoad n ag O G (a.ev T) := rfl
theorem ev_store {T : Tmps} {O : List AO} {G : List Nat} {n : Nat} {a : OD} {x : OD} : ev T O G (.store n a x) = evStore n O G (x.ev T) (a.ev T) := rfl
theorem ev_nilc {T : Tmps} {O : List AO} {G : List Nat} {x : OD} : ev T O G (.nilc x) = evNilc O G (x.ev T) := rfl
theorem ev_bin {T : Tmps} {O : List AO} {G : List Nat} {op : BinOp} {x : OD} {y : OD} : ev T O G (.bin op x y) = evBin op O G (x.ev T) (y.ev T) := rfl
theorem ev_eq {T : Tmps} {O : List AO} {G : List Nat} {neg : Bool} {ks : KS} {x : OD} {y : OD} : ev T O G (.eq neg ks x y) = evEq neg ks O G (x.ev T) (y.ev T) := rfl
theorem ev_eqn {T : Tmps} {O : List AO} {G : List Nat} {neg : Bool} {x : OD} {y : OD} : ev T O G (.eqn neg x y) = evEqn neg O G (x.ev T) (y.ev T) := rfl
theorem ev_un {T : Tmps} {O : List AO} {G : List Nat} {op : UnOp} {x : OD} : ev T O G (.un op x) = evUn op O G (x.ev T) := rfl
theorem ev_conv {T : Tmps} {O : List AO} {G : List Nat} {k : IntKind} {x : OD} : ev T O G (.conv k x) = evConv k O G (x.ev T) := rfl
theorem ev_cstr {T : Tmps} {O : List AO} {G : List Nat} {x : OD} : ev T O G (.cstr x) = evCstr O G (x.ev T) := rfl
theorem ev_mkfn {T : Tmps} {O : List AO} {G : List Nat} {f : Fn} {first : List OD} {cap : List OD} : ev T O G (.mkfn f first cap) = ⟨True, .fn f (first.map (OD.ev T)) (cap.map (OD.ev T)), O, G⟩ := rfl
theorem ev_mkmap {T : Tmps} {O : List AO} {G : List Nat}  : ev T O G (.mkmap ) = ⟨True, .lm O.length, O ++ [.map 0 []], G⟩ := rfl
theorem ev_mksl {T : Tmps} {O : List AO} {G : List Nat} {zero : AV} {sz : Nat} {bytes : Nat} {l : OD} {c : OD} : ev T O G (.mksl zero sz bytes l c) = evMksl zero sz bytes O G (l.ev T) (c.ev T) := rfl
theorem ev_slc {T : Tmps} {O : List AO} {G : List Nat} {sz : Nat} {x : OD} {lo : Option OD} {hi : Option OD} : ev T O G (.slc sz x lo hi) = (evSlc' sz O G (lo.map (OD.ev T)) (hi.map (OD.ev T)) (x.ev T)).chk (slcK sz (x.ev T) = true) := rfl
theorem ev_fad {T : Tmps} {O : List AO} {G : List Nat} {x : OD} {off : Nat} : ev T O G (.fad x off) = evFad off O G (x.ev T) := rfl
theorem ev_fld {T : Tmps} {O : List AO} {G : List Nat} {x : OD} {off : Nat} {n : Nat} {ag : Bool} : ev T O G (.fld x off n ag) = evFld off n ag O G (x.ev T) := rfl
theorem ev_iad {T : Tmps} {O : List AO} {G : List Nat} {sz : Nat} {x : OD} {i : OD} : ev T O G (.iad sz x i) = evIad sz O G (x.ev T) (i.ev T) := rfl
theorem ev_aad {T : Tmps} {O : List AO} {G : List Nat} {len : Nat} {sz : Nat} {x : OD} {i : OD} : ev T O G (.aad len sz x i) = evAad len sz O G (x.ev T) (i.ev T) := rfl
theorem ev_idx {T : Tmps} {O : List AO} {G : List Nat} {x : OD} {i : OD} : ev T O G (.idx x i) = evIdx O G (x.ev T) (i.ev T) := rfl
theorem ev_look {T : Tmps} {O : List AO} {G : List Nat} {ks : KS} {zero : AV} {ok : Bool} {m : OD} {k : OD} : ev T O G (.look ks zero ok m k) = evLook ks zero ok O G (m.ev T) (k.ev T) := rfl
theorem ev_mupd {T : Tmps} {O : List AO} {G : List Nat} {ks : KS} {m : OD} {k : OD} {x : OD} : ev T O G (.mupd ks m k x) = evMupd ks O G (x.ev T) (m.ev T) (k.ev T) := rfl
theorem ev_ment {T : Tmps} {O : List AO} {G : List Nat} {ks : KS} {zero : AV} {m : OD} {k : OD} : ev T O G (.ment ks zero m k) = evMent ks zero O G (m.ev T) (k.ev T) := rfl
theorem ev_mest {T : Tmps} {O : List AO} {G : List Nat} {m : OD} {s : OD} {x : OD} : ev T O G (.mest m s x) = evMest O G (x.ev T) (m.ev T) (s.ev T) := rfl
theorem ev_del {T : Tmps} {O : List AO} {G : List Nat} {ks : KS} {m : OD} {k : OD} : ev T O G (.del ks m k) = evDel ks O G (m.ev T) (k.ev T) := rfl
theorem ev_ext {T : Tmps} {O : List AO} {G : List Nat} {t : OD} {i : Nat} : ev T O G (.ext t i) = match t.ev T with
    | .tup vs => ⟨i < vs.length, vs.getD i .any, O, G⟩
    | _ => .bad := rfl
theorem ev_len {T : Tmps} {O : List AO} {G : List Nat} {kd : Nat} {x : OD} : ev T O G (.len kd x) = (evLen O G (x.ev T)).chk (lenK (x.ev T) = some kd) := rfl
theorem ev_app {T : Tmps} {O : List AO} {G : List Nat} {sz : Nat} {bytes : Nat} {x : OD} {y : OD} : ev T O G (.app sz bytes x y) = evApp' sz bytes O G (x.ev T) (y.ev T) := rfl
theorem ev_appN {T : Tmps} {O : List AO} {G : List Nat} {sz : Nat} {bytes : Nat} {x : OD} {y : OD} : ev T O G (.appN sz bytes x y) = evAppN sz bytes O G (x.ev T) (y.ev T) := rfl
theorem ev_mm {T : Tmps} {O : List AO} {G : List Nat} {mx : Bool} {x : OD} {y : OD} : ev T O G (.mm mx x y) = evMM mx O G (x.ev T) (y.ev T) := rfl
theorem ev_mki {T : Tmps} {O : List AO} {G : List Nat} {t : TypeId} {x : OD} : ev T O G (.mki t x) = ⟨True, .ifc t (x.ev T), O, G⟩ := rfl
theorem ev_loadB {T : Tmps} {O : List AO} {G : List Nat} {n : Nat} {ag : Bool} {a : OD} {bs : List OD} : ev T O G (.loadB n ag a bs) = (evLoad n ag O G (a.ev T)).chk (condB T a bs = true) := rfl
theorem ev_storeB {T : Tmps} {O : List AO} {G : List Nat} {n : Nat} {a : OD} {x : OD} {b : OD} : ev T O G (.storeB n a x b) = (evStore n O G (x.ev T) (a.ev T)).chk (condS T a b = true) := rfl
theorem ev_storeE {T : Tmps} {O : List AO} {G : List Nat} {n : Nat} {a : OD} {x : OD} : ev T O G (.storeE n a x) = (evStore n O G (x.ev T) (a.ev T)).chk ((a.ev T).isEr = true) := rfl
theorem ev_appF {T : Tmps} {O : List AO} {G : List Nat} {sz : Nat} {bytes : Nat} {x : OD} {y : OD} : ev T O G (.appF sz bytes x y) = (evApp' sz bytes O G (x.ev T) (y.ev T)).chk ((x.ev T).isSl = true) := rfl

/-! ### Calls: the reckoning stops there -/
def callP (C : CallSem) (X : Prop) (f : Nat) (args : List AV) (k : AV → Prop) : Prop := ∃ r, (X → C.p f args r) ∧ k r
def callQ (C : CallSem) (X : Prop) (f : Nat) (args : List AV) (O : List AO) (G : List Nat) (k : AV → Prop) : Prop := ∃ r, (X → C.q f args O G r) ∧ k r
def callC (C : CallSem) (f : Nat) (args : List AV) (O : List AO) (G : List Nat) (k : AV → List AO → List Nat → Prop) : Prop := C.c f args O G k
def nextC (O : List AO) (G : List Nat) (x : AV) (k : AV → List AO → List Nat → Prop) : Prop := evNext O G x k
def ifC (X : Prop) (A B : Prop) : Prop := (X → A) ∧ (¬ X → B)

theorem callP_congr {C : CallSem} {X X' : Prop} {f : Nat} {args args' : List AV} {k : AV → Prop} (h0 : X = X') (h : args = args') : callP C X f args k = callP C X' f args' k := by rw [h0, h]
theorem callQ_congr {C : CallSem} {X X' : Prop} {f : Nat} {args args' : List AV} {O O' : List AO} {G G' : List Nat} {k : AV → Prop} (h0 : X = X') (h : args = args') (h1 : O = O') (h2 : G = G') : callQ C X f args O G k = callQ C X' f args' O' G' k := by rw [h0, h, h1, h2]
theorem callC_congr {C : CallSem} {f : Nat} {args args' : List AV} {O O' : List AO} {G G' : List Nat} {k : AV → List AO → List Nat → Prop} (h : args = args') (h1 : O = O') (h2 : G = G') : callC C f args O G k = callC C f args' O' G' k := by rw [h, h1, h2]
theorem nextC_congr {O O' : List AO} {G G' : List Nat} {x x' : AV} {k : AV → List AO → List Nat → Prop} (h : x = x') (h1 : O = O') (h2 : G = G') : nextC O G x k = nextC O' G' x' k := by rw [h, h1, h2]
theorem peJ_congr {C : CallSem} {ks : List Nat} {Q : Post} {ops : List JO} {T T' : Tmps} {O O' : List AO} {G G' : List Nat} (h : T = T') (h1 : O = O') (h2 : G = G') : peJ C ks Q ops T O G = peJ C ks Q ops T' O' G' := by rw [h, h1, h2]
theorem pe_congr {C : CallSem} {c : PCd} {Q : Post} {T T' : Tmps} {O O' : List AO} {G G' : List Nat} (h : T = T') (h1 : O = O') (h2 : G = G') : pe C c Q T O G = pe C c Q T' O' G' := by rw [h, h1, h2]
theorem SeqK_congr {k : Tmps → List AO → List Nat → Prop} {Q : Post} {e e' : Exit} {T T' : Tmps} {O O' : List AO} {G G' : List Nat} (h0 : e = e') (h : T = T') (h1 : O = O') (h2 : G = G') : SeqK k Q e T O G = SeqK k Q e' T' O' G' := by rw [h0, h, h1, h2]
theorem BlkK_congr {id : Nat} {Q : Post} {e e' : Exit} {T T' : Tmps} {O O' : List AO} {G G' : List Nat} (h0 : e = e') (h : T = T') (h1 : O = O') (h2 : G = G') : BlkK id Q e T O G = BlkK id Q e' T' O' G' := by rw [h0, h, h1, h2]
theorem LoopK_congr {I : Tmps → List AO → List Nat → Prop} {Q : Post} {e e' : Exit} {T T' : Tmps} {O O' : List AO} {G G' : List Nat} (h0 : e = e') (h : T = T') (h1 : O = O') (h2 : G = G') : LoopK I Q e T O G = LoopK I Q e' T' O' G' := by rw [h0, h, h1, h2]
/-- A loop stops the reckoning. -/
def loopC (C : CallSem) (a : PCd) (Q : Post) (T : Tmps) (O : List AO) (G : List Nat) : Prop := pe C (.loop a) Q T O G
theorem loopC_congr {C : CallSem} {c : PCd} {Q : Post} {T T' : Tmps} {O O' : List AO} {G G' : List Nat} (h : T = T') (h1 : O = O') (h2 : G = G') : loopC C c Q T O G = loopC C c Q T' O' G' := by rw [h, h1, h2]
def loopN (I : Tmps → List AO → List Nat → Prop) (T : Tmps) (O : List AO) (G : List Nat) : Prop := ∃ T', Wk T T' ∧ I T' O G
theorem loopN_congr {I : Tmps → List AO → List Nat → Prop} {T T' : Tmps} {O O' : List AO} {G G' : List Nat} (h : T = T') (h1 : O = O') (h2 : G = G') : loopN I T O G = loopN I T' O' G' := by rw [h, h1, h2]
/-- The end of the function: what is asked of it is not looked into. -/
def endK (K : AV → List AO → List Nat → Prop) (r : AV) (O : List AO) (G : List Nat) : Prop := K r O G
theorem endK_congr {K : AV → List AO → List Nat → Prop} {r r' : AV} {O O' : List AO} {G G' : List Nat} (h : r = r') (h1 : O = O') (h2 : G = G') : endK K r O G = endK K r' O' G' := by rw [h, h1, h2]

theorem impl_and {T : Tmps} : ∀ {p : Pth} {X : Prop}, (impl T p True ∧ (condP T p → X)) = impl T p X
  | [], X => by simp [impl, condP]
  | (j, b) :: r, X => by
    simp only [impl, condP]
    split
    · rename_i t ht
      rw [ht]
      apply propext
      constructor
      · rintro ⟨h1, h2⟩ e
        subst e
        rw [← impl_and]
        exact ⟨h1 rfl, fun h => h2 ⟨rfl, h⟩⟩
      · intro h
        refine ⟨fun e => impl_mono (fun _ => trivial) (h e), fun ⟨e1, e2⟩ => ?_⟩
        injection e1 with e1; injection e1 with e1
        exact impl_to (h e1) e2
    · simp

section
variable {C : CallSem} {ks : List Nat} {Q : Post} {os : List JO} {T : Tmps} {O : List AO} {G : List Nat}
theorem peJ_nil : peJ C ks Q [] T O G = Q .normal (fin ks T) O G := rfl
/-- The state behind an operation. -/
def afterO (C : CallSem) (ks : List Nat) (Q : Post) (os : List JO) (d : Nat) (T : Tmps) (r : Rs) : Prop := r.ok ∧ peJ C ks Q os ((d, r.a) :: T) r.O r.G
def afterU (C : CallSem) (ks : List Nat) (Q : Post) (os : List JO) (T : Tmps) (r : Rs) : Prop := r.ok ∧ peJ C ks Q os T r.O r.G
def afterG (C : CallSem) (ks : List Nat) (Q : Post) (os : List JO) (p : Pth) (d : Nat) (T : Tmps) (O : List AO) (G : List Nat) (r : Rs) : Prop := impl T p r.ok ∧ peJ C ks Q os ((d, r.a) :: T) O G
theorem afterO_mk {ok : Prop} {d : Nat} {a : AV} : afterO C ks Q os d T ⟨ok, a, O, G⟩ = (ok ∧ peJ C ks Q os ((d, a) :: T) O G) := rfl
theorem afterU_mk {ok : Prop} {a : AV} : afterU C ks Q os T ⟨ok, a, O, G⟩ = (ok ∧ peJ C ks Q os T O G) := rfl
theorem afterG_mk {ok : Prop} {p : Pth} {d : Nat} {a : AV} {O' : List AO} {G' : List Nat} : afterG C ks Q os p d T O G ⟨ok, a, O', G'⟩ = (impl T p ok ∧ peJ C ks Q os ((d, a) :: T) O G) := rfl
theorem afterO_congr {d : Nat} {T' : Tmps} {r r' : Rs} (h : r = r') (h1 : T = T') : afterO C ks Q os d T r = afterO C ks Q os d T' r' := by rw [h, h1]
theorem afterU_congr {T' : Tmps} {r r' : Rs} (h : r = r') (h1 : T = T') : afterU C ks Q os T r = afterU C ks Q os T' r' := by rw [h, h1]
theorem afterG_congr {p : Pth} {d : Nat} {T' : Tmps} {O' : List AO} {G' : List Nat} {r r' : Rs} (h : r = r') (h1 : T = T') (h2 : O = O') (h3 : G = G') : afterG C ks Q os p d T O G r = afterG C ks Q os p d T' O' G' r' := by rw [h, h1, h2, h3]
theorem peJ_o {d : Nat} {op : PK} : peJ C ks Q (.o d op :: os) T O G = afterO C ks Q os d T (ev T O G op) := rfl
theorem peJ_u {op : PK} : peJ C ks Q (.u op :: os) T O G = afterU C ks Q os T (ev T O G op) := rfl
theorem peJ_g {p : Pth} {d : Nat} {op : PK} : peJ C ks Q (.g p d op :: os) T O G = afterG C ks Q os p d T O G (ev T O G op) := rfl
theorem peJ_k {p : Pth} {d j : Nat} {a b : OD} : peJ C ks Q (.k p d j a b :: os) T O G = (impl T p (isB (get T j)) ∧ peJ C ks Q os ((d, pickJ (get T j) (a.ev T) (b.ev T)) :: T) O G) := rfl
theorem peJ_c {d : Option Nat} {f : Nat} {args : List OD} : peJ C ks Q (.c d f args :: os) T O G = callC C f (args.map (OD.ev T)) O G (fun r O G => peJ C ks Q os (put d r T) O G) := rfl
theorem peJ_gc {p : Pth} {d : Nat} {f : Nat} {args : List OD} : peJ C ks Q (.gc p d f args :: os) T O G = (impl T p True ∧ ifC (condP T p) (callC C f (args.map (OD.ev T)) O G (fun r O G => peJ C ks Q os ((d, r) :: T) O G)) (peJ C ks Q os ((d, udf) :: T) O G)) := by
  simp only [peJ, ifC, ← and_assoc, impl_and]; rfl
theorem impl_ex {p : Pth} {f : Nat} {args : List AV} {k : AV → Prop} : (∃ r, impl T p (C.p f args r) ∧ k r) = (impl T p True ∧ callP C (condP T p) f args k) := by
  apply propext
  constructor
  · rintro ⟨r, h, hk⟩; rw [← impl_and] at h; exact ⟨h.1, r, h.2, hk⟩
  · rintro ⟨h, r, h2, hk⟩; exact ⟨r, by rw [← impl_and]; exact ⟨h, h2⟩, hk⟩
theorem impl_exq {p : Pth} {f : Nat} {args : List AV} {k : AV → Prop} : (∃ r, impl T p (C.q f args O G r) ∧ k r) = (impl T p True ∧ callQ C (condP T p) f args O G k) := by
  apply propext
  constructor
  · rintro ⟨r, h, hk⟩; rw [← impl_and] at h; exact ⟨h.1, r, h.2, hk⟩
  · rintro ⟨h, r, h2, hk⟩; exact ⟨r, by rw [← impl_and]; exact ⟨h, h2⟩, hk⟩
theorem peJ_p {p : Pth} {d : Nat} {f : Nat} {args : List OD} : peJ C ks Q (.p p d f args :: os) T O G = (impl T p True ∧ callP C (condP T p) f (args.map fun x => shut (OD.ev T x)) (fun r => peJ C ks Q os ((d, r) :: T) O G)) := impl_ex
theorem peJ_q {p : Pth} {d : Nat} {f : Nat} {args : List OD} : peJ C ks Q (.q p d f args :: os) T O G = (impl T p True ∧ callQ C (condP T p) f (args.map (OD.ev T)) O G (fun r => peJ C ks Q os ((d, r) :: T) O G)) := impl_exq
theorem peJ_cv {d : Option Nat} {x : OD} {args : List OD} : peJ C ks Q (.cv d x args :: os) T O G = (match fnOf (x.ev T) with
    | some (f, first, cap) => callC C f (first ++ args.map (OD.ev T) ++ cap) O G (fun r O G => peJ C ks Q os (put d r T) O G)
    | none => False) := rfl
theorem peJ_nx {d : Nat} {x : OD} : peJ C ks Q (.nx d x :: os) T O G = nextC O G (x.ev T) (fun r O G => peJ C ks Q os ((d, r) :: T) O G) := rfl

theorem pe_skip : pe C .skip Q T O G = Q .normal T O G := rfl
theorem pe_seq {a b : PCd} : pe C (.seq a b) Q T O G = pe C a (SeqK (pe C b Q) Q) T O G := rfl
theorem pe_jreg {ops : List JO} : pe C (.jreg ks ops) Q T O G = peJ C ks Q ops T O G := rfl
def condK (C : CallSem) (a b : PCd) (Q : Post) (T : Tmps) (O : List AO) (G : List Nat) : AV → Prop
  | .v (.bool t) => if t = true then pe C a Q T O G else pe C b Q T O G
  | _ => False
theorem condK_congr {a b : PCd} {T' : Tmps} {O' : List AO} {G' : List Nat} {x x' : AV} (h : x = x') (h1 : T = T') (h2 : O = O') (h3 : G = G') : condK C a b Q T O G x = condK C a b Q T' O' G' x' := by rw [h, h1, h2, h3]
theorem condK_mk {a b : PCd} {t : Bool} : condK C a b Q T O G (.v (.bool t)) = if t = true then pe C a Q T O G else pe C b Q T O G := rfl
theorem pe_cond {c : OD} {a b : PCd} : pe C (.cond c a b) Q T O G = condK C a b Q T O G (c.ev T) := rfl
theorem pe_block {id : Nat} {a : PCd} : pe C (.block id a) Q T O G = pe C a (BlkK id Q) T O G := rfl
theorem pe_loopC {a : PCd} : pe C (.loop a) Q T O G = loopC C a Q T O G := rfl
theorem pe_exit {id : Nat} : pe C (.exit id) Q T O G = Q (.exit id) T O G := rfl
theorem pe_ret : pe C .ret Q T O G = Q .ret T O G := rfl
theorem SeqK_n {k : Tmps → List AO → List Nat → Prop} : SeqK k Q .normal T O G = k T O G := rfl
theorem SeqK_e {k : Tmps → List AO → List Nat → Prop} {i : Nat} : SeqK k Q (.exit i) T O G = Q (.exit i) T O G := rfl
theorem SeqK_r {k : Tmps → List AO → List Nat → Prop} : SeqK k Q .ret T O G = Q .ret T O G := rfl
theorem BlkK_n {i : Nat} : BlkK i Q .normal T O G = Q .normal T O G := rfl
theorem BlkK_e {i j : Nat} : BlkK i Q (.exit j) T O G = if j = i then Q .normal T O G else Q (.exit j) T O G := rfl
theorem BlkK_r {i : Nat} : BlkK i Q .ret T O G = Q .ret T O G := rfl
theorem LoopK_n {I : Tmps → List AO → List Nat → Prop} : LoopK I Q .normal T O G = loopN I T O G := rfl
theorem LoopK_e {I : Tmps → List AO → List Nat → Prop} {i : Nat} : LoopK I Q (.exit i) T O G = Q (.exit i) T O G := rfl
theorem LoopK_r {I : Tmps → List AO → List Nat → Prop} : LoopK I Q .ret T O G = Q .ret T O G := rfl
theorem RetK_n {rs : List Nat} {K : AV → List AO → List Nat → Prop} : RetK rs K .normal T O G = endK K (resV T rs) O G := rfl
theorem RetK_r {rs : List Nat} {K : AV → List AO → List Nat → Prop} : RetK rs K .ret T O G = endK K (resV T rs) O G := rfl
theorem RetK_congr {rs : List Nat} {K : AV → List AO → List Nat → Prop} {e e' : Exit} {T' : Tmps} {O' : List AO} {G' : List Nat} (h0 : e = e') (h : T = T') (h1 : O = O') (h2 : G = G') : RetK rs K e T O G = RetK rs K e' T' O' G' := by rw [h0, h, h1, h2]

theorem callP.of {X : Prop} {f : Nat} {args : List AV} {k : AV → Prop} {r : AV} (h : X → C.p f args r) (hk : k r) : callP C X f args k := ⟨r, h, hk⟩
theorem callQ.of {X : Prop} {f : Nat} {args : List AV} {k : AV → Prop} {r : AV} (h : X → C.q f args O G r) (hk : k r) : callQ C X f args O G k := ⟨r, h, hk⟩
end
theorem callC.of {P : Program} {f : Nat} {args : List AV} {O : List AO} {G : List Nat} {k K : AV → List AO → List Nat → Prop} (h : PCall P f args O G K) (hk : ∀ r O' G', K r O' G' → k r O' G') : callC (PSem P) f args O G k := h.mono hk
theorem loopC.of {P : Program} {a : PCd} {Q : Post} {T : Tmps} {O : List AO} {G : List Nat} (I : Nat → Tmps → List AO → List Nat → Prop) (n : Nat) (h0 : I n T O G)
    (hr : ∀ n T O G, I n T O G → pe (PSem P) a (LoopK (fun T' O' G' => ∃ m, m < n ∧ I m T' O' G') Q) T O G) : loopC (PSem P) a Q T O G := pe_loop' (PSem.cmono P) I n h0 hr
theorem loopC.unroll {C : CallSem} {a : PCd} {Q : Post} {T : Tmps} {O : List AO} {G : List Nat} (n : Nat) (h : rounds (pe C a) Q n T O G) : loopC C a Q T O G := ⟨n, h⟩
theorem rounds_succ' {C : CallSem} {a : PCd} {Q : Post} {T : Tmps} {O : List AO} {G : List Nat} {n : Nat} (h : pe C a (LoopK (rounds (pe C a) Q n) Q) T O G) : rounds (pe C a) Q (n + 1) T O G := h
theorem loopN.self {I : Tmps → List AO → List Nat → Prop} {T : Tmps} {O : List AO} {G : List Nat} (hI : I T O G) : loopN I T O G := ⟨T, fun n => .inr rfl, hI⟩
theorem loopN.of {I : Tmps → List AO → List Nat → Prop} {T : Tmps} {O : List AO} {G : List Nat} (T' : Tmps) (h : agree T' T) (hI : I T' O G) : loopN I T O G := ⟨T', wk_of h, hI⟩

/-! ### Lists of places -/
section
variable {α : Type}
theorem app_get0 {O X : List α} : (O ++ X)[O.length]? = X[0]? := by rw [List.getElem?_append_right (Nat.le_refl _), Nat.sub_self]
theorem app_getk {O X : List α} {i : Nat} : (O ++ X)[O.length + i]? = X[i]? := by rw [List.getElem?_append_right (by omega)]; congr 1; omega
theorem app_set0 {O X : List α} {a : α} : (O ++ X).set O.length a = O ++ X.set 0 a := by rw [List.set_append_right (h := Nat.le_refl _), Nat.sub_self]
theorem app_setk {O X : List α} {i : Nat} {a : α} : (O ++ X).set (O.length + i) a = O ++ X.set i a := by rw [List.set_append_right (h := by omega)]; congr 2; omega
end

attribute [congr] callP_congr callQ_congr callC_congr nextC_congr peJ_congr pe_congr SeqK_congr BlkK_congr LoopK_congr loopC_congr loopN_congr endK_congr afterO_congr afterU_congr afterG_congr condK_congr RetK_congr
attribute [go_sem] pe_skip pe_seq pe_jreg pe_cond condK_mk pe_block pe_loopC pe_exit pe_ret SeqK_n SeqK_e SeqK_r BlkK_n BlkK_e BlkK_r LoopK_n LoopK_e LoopK_r RetK_n RetK_r
attribute [go_sem] peJ_nil peJ_o peJ_u peJ_g peJ_k peJ_c peJ_gc peJ_p peJ_q peJ_cv peJ_nx afterO_mk afterU_mk afterG_mk
attribute [go_sem] ev_mov ev_newnil ev_pick ev_alloc ev_box ev_build ev_bsl ev_bslA ev_load ev_store ev_nilc ev_bin ev_eq ev_eqn ev_un ev_conv ev_cstr ev_mkfn ev_mkmap ev_mksl ev_slc ev_fad ev_fld ev_iad ev_aad ev_idx ev_look ev_mupd ev_ment ev_mest ev_del ev_ext ev_len ev_app ev_appN ev_mm ev_mki ev_loadB ev_storeB ev_storeE ev_appF evLoad evStore evNilc evBin evEq evEqn evUn evConv evCstr evMksl evSlc' evFad evFld evIad evAad evIdx evLook evMupd evMent evMest evDel evLen evApp' evAppN evApp_eq okParts okAll allSz_nil allSz_cons allSz_append evMM evBuild Rs.bad Rs.chk get put OD.ev argT resV fnOf szOK rdv AV.cells AV.isOne Value.oneCell' splice setc shut shut1 eqNil AV.isPtr mkKey toVL cellsL leavesEq leafEq kEq shapeB slcK lenK condB condS refLoc AV.isEr AV.isSl elemsOf Tail.noTok mm1 fin impl condP isB pickJ agree ofC1
theorem app_get0' {α : Type} {O X : List α} {n : Nat} (h : O.length = n) : (O ++ X)[n]? = X[0]? := h ▸ app_get0
theorem app_getk' {α : Type} {O X : List α} {n i : Nat} (h : O.length = n) : (O ++ X)[n + i]? = X[i]? := h ▸ app_getk
theorem app_set0' {α : Type} {O X : List α} {n : Nat} {a : α} (h : O.length = n) : (O ++ X).set n a = O ++ X.set 0 a := h ▸ app_set0
theorem app_setk' {α : Type} {O X : List α} {n i : Nat} {a : α} (h : O.length = n) : (O ++ X).set (n + i) a = O ++ X.set i a := h ▸ app_setk
theorem set_app_left {α : Type} {O X : List α} {i : Nat} {a : α} (h : i < O.length) : (O ++ X).set i a = O.set i a ++ X := List.set_append_left _ _ h
theorem wrap_i64 {n : Int} (h : -9223372036854775808 ≤ n) (h' : n ≤ 9223372036854775807) : IntKind.i64.wrap n = n := IntWalk.i64_in n ⟨h, h'⟩
attribute [go_sem] wrap_i64 Int.cast_ofNat_Int app_get0' app_getk' app_set0' app_setk' ne_eq List.getElem?_append_left List.getElem?_set_ne List.getElem?_set_self List.length_set set_app_left
attribute [go_sem] app_get0 app_getk app_set0 app_setk List.append_assoc List.length_append beq_self_eq_true Bool.and_true Bool.true_and Bool.or_true Bool.true_or Bool.or_false Bool.false_or Nat.zero_add Nat.add_zero
attribute [go_sem] false_implies Bool.false_and Bool.and_false List.all_cons List.all_nil false_and and_false pickJ_true pickJ_false List.isEmpty_cons List.isEmpty_nil Nat.sub_zero Int.toNat_zero Option.map_some Option.map_none List.toList_toArray Option.isSome_some Option.isSome_none decide_true decide_false List.length_map Int.toNat_natCast and_self if_true if_false not_true_eq_false not_false_eq_true
attribute [go_sem] true_and and_true implies_true true_implies List.getElem?_cons_zero List.getElem?_cons_succ List.set_cons_zero List.set_cons_succ List.nil_append List.cons_append List.getElem?_nil List.map_cons List.map_nil List.getD_cons_zero List.getD_cons_succ List.length_cons List.length_nil List.drop_succ_cons List.drop_zero List.take_succ_cons List.take_zero List.take_nil Option.getD_some Option.getD_none Bool.cond_false_right Bool.cond_true_left Bool.false_eq_true Bool.not_true Bool.not_false
end Go.VL
