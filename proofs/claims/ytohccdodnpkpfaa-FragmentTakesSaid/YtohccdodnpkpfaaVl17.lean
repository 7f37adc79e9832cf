/- Value logic, part 17: every operation that is no call, the rest. -/
import Derived.Test.YtohccdodnpkpfaaVl16
set_option linter.unusedVariables false
set_option linter.unusedSimpArgs false
namespace Go.VL
open Go.RowKit

section
variable {P : Program}

theorem op_reckon {pol : List TypeId} {o : Oper} {op : PK} {E : Env} {T : Tmps} {a : Act} (h : At E T a) (htr : trPK P pol o = some op) (hok : (ev T E.O E.G op).ok) :
    (∃ p t x y q, o.op = .binOp p t x y q) ∨ (∃ p t x, o.op = .unOp p t x) ∨ (∃ s d x, o.op = .convert s d x) ∨ (∃ x i, o.op = .extract x i) ∨ (∃ t x, o.op = .makeInterface t x) →
    OpRes E (ev T E.O E.G op) ((execOp a.eval o).run P E.w) := by
  rintro (⟨p, t, x, y, q, hop⟩ | ⟨p, t, x, hop⟩ | ⟨s, d, x, hop⟩ | ⟨x, i, hop⟩ | ⟨t, x, hop⟩)
  · simp only [trPK, hop] at htr
    split at htr
    · rename_i b c hb hc
      have hB := trOD_rep hb h.t
      have hC := trOD_rep hc h.t
      have hpass : ∀ (hk : okBin p = true), op = .bin p b c → OpRes E (ev T E.O E.G op) ((execOp a.eval o).run P E.w) := by
        rintro hk rfl
        simp only [execOp, hop]
        exact OpRes.of_done (done_bin h.r hB hC hok x y hk)
      simp only [execOp, hop]
      split at htr
      · split at htr
        · rename_i ag ls hf
          split at htr
          · rename_i hg
            injection htr with htr; subst htr
            exact OpRes.of_done (done_eq (neg := false) h.r hf hg hB hC hok x y)
          · cases htr
        · split at htr
          · rename_i e hu'
            injection htr with htr; subst htr
            exact OpRes.of_done (done_eqn (neg := false) h.r hu' hB hC hok x y)
          · cases htr
      · split at htr
        · rename_i ag ls hf
          split at htr
          · rename_i hg
            injection htr with htr; subst htr
            exact OpRes.of_done (done_eq (neg := true) h.r hf hg hB hC hok x y)
          · cases htr
        · split at htr
          · rename_i e hu'
            injection htr with htr; subst htr
            exact OpRes.of_done (done_eqn (neg := true) h.r hu' hB hC hok x y)
          · cases htr
      · split at htr
        · rename_i hk
          injection htr with htr
          have := hpass hk htr.symm
          simpa only [execOp, hop] using this
        · cases htr
    · cases htr
  · simp only [trPK, hop] at htr
    simp only [execOp, hop]
    split at htr
    · simp only [Option.map_eq_some_iff] at htr
      obtain ⟨y, hy, rfl⟩ := htr
      exact OpRes.of_done (done_un h.r (trOD_rep hy h.t) hok)
    · simp only [Option.map_eq_some_iff] at htr
      obtain ⟨y, hy, rfl⟩ := htr
      exact OpRes.of_done (done_un h.r (trOD_rep hy h.t) hok)
    · cases htr
  · simp only [trPK, hop] at htr
    simp only [execOp, hop]
    split at htr
    · rename_i k0 k hs hd
      simp only [Option.map_eq_some_iff] at htr
      obtain ⟨y, hy, rfl⟩ := htr
      exact OpRes.of_done (done_conv h.r hs hd (trOD_rep hy h.t) hok)
    · rename_i hs hd
      simp only [Option.map_eq_some_iff] at htr
      obtain ⟨y, hy, rfl⟩ := htr
      have hY := trOD_rep hy h.t
      simp only [ev, evCstr] at hok ⊢
      split at hok
      · rename_i st hv
        rw [hv] at hY
        have e := rep_v hY
        rw [e]
        refine OpRes.of_done (Done.same h.r ?_ (.v _))
        simp [convert, run_underlying hs, run_underlying hd]
      · exact hok.elim
    · cases htr
  · simp only [trPK, hop, Option.map_eq_some_iff] at htr
    obtain ⟨y, hy, rfl⟩ := htr
    simp only [execOp, hop]
    have hY := trOD_rep hy h.t
    simp only [ev] at hok ⊢
    split at hok
    · rename_i vs hv
      rw [hv] at hY
      exact OpRes.of_done (done_ext h.r hY hok)
    · exact hok.elim
  · simp only [trPK, hop] at htr
    split at htr
    · cases htr
    · rename_i d hn hu
      simp only [Option.map_eq_some_iff] at htr
      obtain ⟨y, hy, rfl⟩ := htr
      simp only [execOp, hop, ev]
      refine ⟨.value (.iface t (a.eval x)), E, ?_, .inl ⟨_, rfl, .ifc (trOD_rep hy h.t)⟩, h.r, Ext.refl E, rfl, rfl⟩
      cases d <;> first | exact (hn _ rfl).elim | simp [Instr.makeInterface, run_underlying hu]
    · cases htr

theorem op_place {pol : List TypeId} {o : Oper} {op : PK} {E : Env} {T : Tmps} {a : Act} (h : At E T a) (htr : trPK P pol o = some op) (hok : (ev T E.O E.G op).ok) :
    (∃ t x lo hi mx, o.op = .slice t x lo hi mx) ∨ (∃ s x f, o.op = .fieldAddr s x f) ∨ (∃ s x f, o.op = .field s x f) ∨ (∃ t x i, o.op = .indexAddr t x i) ∨ (∃ t x i, o.op = .index t x i) →
    OpRes E (ev T E.O E.G op) ((execOp a.eval o).run P E.w) := by
  rintro (⟨t, x, lo, hi, mx, hop⟩ | ⟨s, x, f, hop⟩ | ⟨s, x, f, hop⟩ | ⟨t, x, i, hop⟩ | ⟨t, x, i, hop⟩)
  · simp only [trPK, hop] at htr
    simp only [execOp, hop]
    split at htr
    · rename_i x' lo' hi' hu hx hl hh
      injection htr with htr; subst htr
      simp only [ev, Rs.chk] at hok ⊢
      obtain ⟨l1, l2⟩ := trOpt_rep hl h.t
      obtain ⟨h1, h2⟩ := trOpt_rep hh h.t
      have := done_slc (P := P) (t := t) h.r (trOD_rep hx h.t) (sz := 0) (by
        have hk := hok.1
        cases hX : x'.ev T <;> simp [hX, slcK, SlcFit, hu] at hk ⊢) l1 l2 h1 h2 hok.2
      exact OpRes.of_done this
    · rename_i e x' lo' hi' hu hx hl hh
      split at htr
      · rename_i n hs
        split at htr
        · rename_i hn
          injection htr with htr; subst htr
          simp only [ev, Rs.chk] at hok ⊢
          obtain ⟨l1, l2⟩ := trOpt_rep hl h.t
          obtain ⟨h1, h2⟩ := trOpt_rep hh h.t
          have := done_slc (P := P) (t := t) h.r (trOD_rep hx h.t) (sz := n) (by
            have hk := hok.1
            cases hX : x'.ev T <;> simp [hX, slcK, SlcFit, hu, hs] at hk ⊢
            omega) l1 l2 h1 h2 hok.2
          exact OpRes.of_done this
        · cases htr
      · cases htr
    · cases htr
  · simp only [trPK, hop] at htr
    simp only [execOp, hop]
    split at htr
    · rename_i fs x' hu hx
      split at htr
      · rename_i fd hf
        split at htr
        · rename_i hn
          injection htr with htr; subst htr
          obtain ⟨n, hsz⟩ : ∃ n, szOf P fd.type = some n := Option.ne_none_iff_exists'.1 hn.2
          exact OpRes.of_done (done_fad h.r hu hf hsz (fun e => hn.1 (by rw [hsz, e])) (trOD_rep hx h.t) hok)
        · cases htr
      · cases htr
    · cases htr
  · simp only [trPK, hop] at htr
    simp only [execOp, hop]
    split at htr
    · rename_i fs x' hu hx
      split at htr
      · rename_i fd hf
        split at htr
        · rename_i n hn
          split at htr
          · rename_i ha
            injection htr with htr; subst htr
            exact OpRes.of_done (by simpa [ev] using done_fld (P := P) h.r hu hf hn ha (trOD_rep hx h.t) (by simpa [ev] using hok))
          · rename_i ha
            injection htr with htr; subst htr
            exact OpRes.of_done (by simpa [ev] using done_fld (P := P) h.r hu hf hn ha (trOD_rep hx h.t) (by simpa [ev] using hok))
          · cases htr
        · cases htr
      · cases htr
    · cases htr
  · simp only [trPK, hop] at htr
    simp only [execOp, hop]
    split at htr
    · rename_i e x' i' hu hx hi
      split at htr
      · rename_i n hs
        split at htr
        · rename_i h0
          injection htr with htr; subst htr
          exact OpRes.of_done (done_iad h.r hu hs h0 (trOD_rep hx h.t) (trOD_rep hi h.t) hok)
        · cases htr
      · cases htr
    · rename_i len e x' i' hu hx hi
      split at htr
      · rename_i n hs
        split at htr
        · rename_i h0
          injection htr with htr; subst htr
          exact OpRes.of_done (done_aad h.r hu hs (trOD_rep hx h.t) (trOD_rep hi h.t) hok)
        · cases htr
      · cases htr
    · cases htr
  · simp only [trPK, hop] at htr
    simp only [execOp, hop]
    split at htr
    · rename_i x' i' hu hx hi
      injection htr with htr; subst htr
      exact OpRes.of_done (done_idx h.r hu (trOD_rep hx h.t) (trOD_rep hi h.t) hok)
    · cases htr

theorem keyLs_flat {t : TypeId} {ks : KS} (h : keyLs P t = some ks) : flatT P 10 t = some (ks.ag, ks.ls) := by
  unfold keyLs at h
  simp only [Option.map_eq_some_iff] at h
  obtain ⟨p, h1, rfl⟩ := h
  exact h1

theorem op_maps {pol : List TypeId} {o : Oper} {op : PK} {E : Env} {T : Tmps} {a : Act} (h : At E T a) (htr : trPK P pol o = some op) (hok : (ev T E.O E.G op).ok) :
    (∃ t m k ok, o.op = .lookup t m k ok) ∨ (∃ t m k x, o.op = .mapUpdate t m k x) ∨ (∃ t m k x, o.op = .insert t m k x) ∨ (∃ t m k, o.op = .mapEntry t m k) ∨ (∃ t m s x, o.op = .entryStore t m s x) →
    OpRes E (ev T E.O E.G op) ((execOp a.eval o).run P E.w) := by
  rintro (⟨t, m, k, okk, hop⟩ | ⟨t, m, k, x, hop⟩ | ⟨t, m, k, x, hop⟩ | ⟨t, m, k, hop⟩ | ⟨t, m, s, x, hop⟩)
  · simp only [trPK, hop] at htr
    simp only [execOp, hop]
    split at htr
    · rename_i kt e m' k' hu hm hk
      split at htr
      · rename_i ks z hks hz
        injection htr with htr; subst htr
        exact OpRes.of_done (done_look h.r hu (keyLs_flat hks) hz (trOD_rep hm h.t) (trOD_rep hk h.t) hok)
      · cases htr
    · cases htr
  · simp only [trPK, hop] at htr
    simp only [execOp, hop]
    split at htr
    · rename_i kt e m' k' x' hu hm hk hx
      simp only [Option.map_eq_some_iff] at htr
      obtain ⟨ks, hks, rfl⟩ := htr
      exact OpRes.of_doneU (done_mupd h.r hu (keyLs_flat hks) (trOD_rep hm h.t) (trOD_rep hk h.t) (trOD_rep hx h.t) hok)
    · cases htr
  · simp only [trPK, hop] at htr
    simp only [execOp, hop]
    split at htr
    · rename_i kt e m' k' x' hu hm hk hx
      simp only [Option.map_eq_some_iff] at htr
      obtain ⟨ks, hks, rfl⟩ := htr
      exact OpRes.of_doneU (done_mupd h.r hu (keyLs_flat hks) (trOD_rep hm h.t) (trOD_rep hk h.t) (trOD_rep hx h.t) hok)
    · cases htr
  · simp only [trPK, hop] at htr
    simp only [execOp, hop]
    split at htr
    · rename_i kt e m' k' hu hm hk
      split at htr
      · rename_i ks z hks hz
        injection htr with htr; subst htr
        exact OpRes.of_done (done_ment h.r hu (keyLs_flat hks) hz (trOD_rep hm h.t) (trOD_rep hk h.t) hok)
      · cases htr
    · cases htr
  · simp only [trPK, hop] at htr
    simp only [execOp, hop]
    split at htr
    · rename_i m' s' x' hm hs hx
      injection htr with htr; subst htr
      exact OpRes.of_doneU (done_mest h.r (trOD_rep hm h.t) (trOD_rep hs h.t) (trOD_rep hx h.t) hok)
    · cases htr

theorem lenFit {t : TypeId} {x : AV} {kd : Nat} (hk : lenK x = some kd) (hu : (kd = 0 → P.underlying t = some .string) ∧ (kd = 1 → ∃ e, P.underlying t = some (.slice e)) ∧ (kd = 2 → ∃ k e, P.underlying t = some (.map k e))) :
    LenFit P t x := by
  unfold lenK at hk
  split at hk <;> cases hk
  · exact hu.1 rfl
  · exact hu.2.1 rfl
  · exact hu.2.1 rfl
  · exact hu.2.2 rfl

theorem op_builtin {pol : List TypeId} {o : Oper} {op : PK} {E : Env} {T : Tmps} {a : Act} (h : At E T a) (htr : trPK P pol o = some op) (hok : (ev T E.O E.G op).ok) (hop : ∃ c, o.op = .call c) :
    OpRes E (ev T E.O E.G op) ((execOp a.eval o).run P E.w) := by
  obtain ⟨c, hop⟩ := hop
  simp only [trPK, hop] at htr
  split at htr
  · rename_i hc
    split at htr
    · rename_i x t ha ht
      have hargs : c.args.map a.eval = #[a.eval x] := Array.toList_inj.1 (by simp [ha])
      have hts : c.argTypes = #[t] := Array.toList_inj.1 (by simp [ht])
      simp only [execOp, hop, resolve, hc, hargs, hts, Sem.run_bind, Sem.run_pure, Result.andThen_ok, invoke, builtin]
      have go : ∀ (kd : Nat) (y : OD), trOD x = some y → (ev T E.O E.G (.len kd y)).ok → ((kd = 0 → P.underlying t = some .string) ∧ (kd = 1 → ∃ e, P.underlying t = some (.slice e)) ∧ (kd = 2 → ∃ k e, P.underlying t = some (.map k e))) →
          (P.underlying t = some .string ∨ (∃ e, P.underlying t = some (.slice e)) ∨ ∃ k e, P.underlying t = some (.map k e)) →
          OpRes E (ev T E.O E.G (.len kd y)) (((Builtin.len_ #[t] o.type #[a.eval x]).run P E.w).andThen fun a w => .ok (Next.value a) w) := by
        intro kd y hy hok hu hor
        simp only [ev, Rs.chk] at hok ⊢
        have := OpRes.of_done (done_len (P := P) (ty := o.type) h.r hor (trOD_rep hy h.t) hok.2 (lenFit hok.1 hu))
        simpa only [OpRes, Sem.run_bind, Sem.run_pure] using this
      split at htr
      · rename_i hu
        simp only [Option.map_eq_some_iff] at htr
        obtain ⟨y, hy, rfl⟩ := htr
        exact go 0 y hy hok ⟨fun _ => hu, by simp, by simp⟩ (.inl hu)
      · rename_i e hu
        simp only [Option.map_eq_some_iff] at htr
        obtain ⟨y, hy, rfl⟩ := htr
        exact go 1 y hy hok ⟨by simp, fun _ => ⟨e, hu⟩, by simp⟩ (.inr (.inl ⟨e, hu⟩))
      · rename_i k e hu
        simp only [Option.map_eq_some_iff] at htr
        obtain ⟨y, hy, rfl⟩ := htr
        exact go 2 y hy hok ⟨by simp, by simp, fun _ => ⟨k, e, hu⟩⟩ (.inr (.inr ⟨k, e, hu⟩))
      · cases htr
    · cases htr
  · rename_i hc
    split at htr
    · rename_i x y t u ha ht
      split at htr
      · rename_i htu
        subst htu
        have hargs : c.args.map a.eval = #[a.eval x, a.eval y] := Array.toList_inj.1 (by simp [ha])
        have hts : c.argTypes = #[t, t] := Array.toList_inj.1 (by simp [ht])
        simp only [execOp, hop, resolve, hc, hargs, hts, Sem.run_bind, Sem.run_pure, Result.andThen_ok, invoke, builtin]
        split at htr
        · rename_i e x' y' hu hx hy
          split at htr
          · rename_i n b z hn hb hz
            split at htr
            · rename_i hcond
              obtain ⟨i, hi, hsz⟩ := szOf_info hn
              simp only [hi, Option.map_some, Option.bind_some] at hb hz
              injection hb with hb
              have hX := trOD_rep hx h.t
              have hY := trOD_rep hy h.t
              split at htr
              · injection htr with htr; subst htr
                simp only [ev] at hok ⊢
                have := OpRes.of_done (done_appN (P := P) (ty := o.type) h.r hu hi hsz hb hz hcond.2.2 hcond.1 hX hY hok)
                simpa only [OpRes, Sem.run_bind, Sem.run_pure] using this
              · injection htr with htr; subst htr
                simp only [ev] at hok ⊢
                have key : Done E (evApp n b E.O E.G (x'.ev T) (y'.ev T)) ((Builtin.append_ #[t, t] o.type #[a.eval x, a.eval y]).run P E.w) := by
                  generalize x'.ev T = xv at *
                  cases xv with
                  | sl xs tl => exact done_app_sl h.r hu hi hsz hb hz hcond.2.2 hcond.1 hX hY hok
                  | lsl l g off m => exact done_app_lsl h.r hu hi hsz hb hz hcond.2.2 hcond.1 hX hY hok
                  | _ => unfold evApp at hok; split at hok <;> exact hok.elim
                have := OpRes.of_done key
                simpa only [OpRes, Sem.run_bind, Sem.run_pure] using this
            · cases htr
          · cases htr
        · cases htr
      · cases htr
    · cases htr
  · rename_i hc
    split at htr
    · rename_i m k t ts ha ht
      have hargs : c.args.map a.eval = #[a.eval m, a.eval k] := Array.toList_inj.1 (by simp [ha])
      simp only [execOp, hop, resolve, hc, hargs, Sem.run_bind, Sem.run_pure, Result.andThen_ok, invoke, builtin]
      split at htr
      · rename_i kt e m' k' hu hm hk
        simp only [Option.map_eq_some_iff] at htr
        obtain ⟨ks, hks, rfl⟩ := htr
        simp only [ev] at hok ⊢
        have := OpRes.of_done (done_del (P := P) (ty := o.type) (ats := c.argTypes) h.r hu (keyLs_flat hks) (by rw [← Array.getElem?_toList, ht]; rfl) (trOD_rep hm h.t) (trOD_rep hk h.t) hok)
        simpa only [OpRes, Sem.run_bind, Sem.run_pure] using this
      · cases htr
    · cases htr
  · rename_i hc
    split at htr
    · rename_i x y ha
      injection htr with htr; subst htr
      have hl := trODs_rep ha h.t
      obtain ⟨u, v, huv⟩ : ∃ u v, c.args.toList.map a.eval = [u, v] := by
        have := hl.length
        simp only [List.length_cons, List.length_nil, List.map_cons, List.map_nil] at this
        match h2 : c.args.toList.map a.eval, this with
        | [u, v], _ => exact ⟨u, v, rfl⟩
      rw [huv] at hl
      have hargs : c.args.map a.eval = #[u, v] := Array.toList_inj.1 (by simpa using huv)
      cases hl with
      | cons hx hl => cases hl with
        | cons hy hl =>
          simp only [execOp, hop, resolve, hc, hargs, Sem.run_bind, Sem.run_pure, Result.andThen_ok, invoke, builtin]
          simp only [ev, List.map_cons, List.map_nil] at hok ⊢
          have := OpRes.of_done (done_mm (P := P) (mx := true) (ats := c.argTypes) (ty := o.type) h.r hx hy hok)
          simpa only [OpRes, Sem.run_bind, Sem.run_pure, if_true] using this
    · cases htr
  · rename_i hc
    split at htr
    · rename_i x y ha
      injection htr with htr; subst htr
      have hl := trODs_rep ha h.t
      obtain ⟨u, v, huv⟩ : ∃ u v, c.args.toList.map a.eval = [u, v] := by
        have := hl.length
        simp only [List.length_cons, List.length_nil, List.map_cons, List.map_nil] at this
        match h2 : c.args.toList.map a.eval, this with
        | [u, v], _ => exact ⟨u, v, rfl⟩
      rw [huv] at hl
      have hargs : c.args.map a.eval = #[u, v] := Array.toList_inj.1 (by simpa using huv)
      cases hl with
      | cons hx hl => cases hl with
        | cons hy hl =>
          simp only [execOp, hop, resolve, hc, hargs, Sem.run_bind, Sem.run_pure, Result.andThen_ok, invoke, builtin]
          simp only [ev, List.map_cons, List.map_nil] at hok ⊢
          have := OpRes.of_done (done_mm (P := P) (mx := false) (ats := c.argTypes) (ty := o.type) h.r hx hy hok)
          simpa only [OpRes, Sem.run_bind, Sem.run_pure, if_false, Bool.false_eq_true] using this
    · cases htr
  · cases htr

/-- Every operation that has been translated, and is no call of a function, does what its translation says. (Ranges are met elsewhere.) -/
theorem op_sound {pol : List TypeId} {o : Oper} {op : PK} {E : Env} {T : Tmps} {a : Act} (h : At E T a) (htr : trPK P pol o = some op) (hok : (ev T E.O E.G op).ok) :
    OpRes E (ev T E.O E.G op) ((execOp a.eval o).run P E.w) := by
  cases ho : o.op with
  | move x => exact op_simple h htr hok (.inl ⟨x, ho⟩)
  | assign x => exact op_simple h htr hok (.inr (.inl ⟨x, ho⟩))
  | pick x y z => exact op_simple h htr hok (.inr (.inr (.inl ⟨x, y, z, ho⟩)))
  | alloc t => exact op_simple h htr hok (.inr (.inr (.inr (.inl ⟨t, ho⟩))))
  | box t x => exact op_simple h htr hok (.inr (.inr (.inr (.inr (.inl ⟨t, x, ho⟩)))))
  | build t x => exact op_simple h htr hok (.inr (.inr (.inr (.inr (.inr ⟨t, x, ho⟩)))))
  | buildSlice t n p => exact op_mem h htr hok (.inl ⟨t, n, p, ho⟩)
  | load t x => exact op_mem h htr hok (.inr (.inl ⟨t, x, ho⟩))
  | store t x y => exact op_mem h htr hok (.inr (.inr (.inl ⟨t, x, y, ho⟩)))
  | nilCheck x => exact op_mem h htr hok (.inr (.inr (.inr (.inl ⟨x, ho⟩))))
  | makeFunc f x y => exact op_mem h htr hok (.inr (.inr (.inr (.inr (.inl ⟨f, x, y, ho⟩)))))
  | makeMap t x => exact op_mem h htr hok (.inr (.inr (.inr (.inr (.inr (.inl ⟨t, x, ho⟩))))))
  | makeSlice t x y => exact op_mem h htr hok (.inr (.inr (.inr (.inr (.inr (.inr ⟨t, x, y, ho⟩))))))
  | binOp p t x y q => exact op_reckon h htr hok (.inl ⟨p, t, x, y, q, ho⟩)
  | unOp p t x => exact op_reckon h htr hok (.inr (.inl ⟨p, t, x, ho⟩))
  | convert s d x => exact op_reckon h htr hok (.inr (.inr (.inl ⟨s, d, x, ho⟩)))
  | extract x i => exact op_reckon h htr hok (.inr (.inr (.inr (.inl ⟨x, i, ho⟩))))
  | makeInterface t x => exact op_reckon h htr hok (.inr (.inr (.inr (.inr ⟨t, x, ho⟩))))
  | slice t x lo hi mx => exact op_place h htr hok (.inl ⟨t, x, lo, hi, mx, ho⟩)
  | fieldAddr s x f => exact op_place h htr hok (.inr (.inl ⟨s, x, f, ho⟩))
  | field s x f => exact op_place h htr hok (.inr (.inr (.inl ⟨s, x, f, ho⟩)))
  | indexAddr t x i => exact op_place h htr hok (.inr (.inr (.inr (.inl ⟨t, x, i, ho⟩))))
  | index t x i => exact op_place h htr hok (.inr (.inr (.inr (.inr ⟨t, x, i, ho⟩))))
  | lookup t m k c => exact op_maps h htr hok (.inl ⟨t, m, k, c, ho⟩)
  | mapUpdate t m k x => exact op_maps h htr hok (.inr (.inl ⟨t, m, k, x, ho⟩))
  | insert t m k x => exact op_maps h htr hok (.inr (.inr (.inl ⟨t, m, k, x, ho⟩)))
  | mapEntry t m k => exact op_maps h htr hok (.inr (.inr (.inr (.inl ⟨t, m, k, ho⟩))))
  | entryStore t m s x => exact op_maps h htr hok (.inr (.inr (.inr (.inr ⟨t, m, s, x, ho⟩))))
  | call c => exact op_builtin h htr hok ⟨c, ho⟩
  | range t x =>
    simp only [trPK, ho] at htr
    split at htr
    · simp only [Option.map_eq_some_iff] at htr
      obtain ⟨y, hy, rfl⟩ := htr
      exact hok.elim
    · simp only [Option.map_eq_some_iff] at htr
      obtain ⟨y, hy, rfl⟩ := htr
      exact hok.elim
    · cases htr
  | next x s =>
    simp only [trPK, ho] at htr
    split at htr
    · simp only [Option.map_eq_some_iff] at htr
      obtain ⟨y, hy, rfl⟩ := htr
      exact hok.elim
    · cases htr
  | _ => simp [trPK, ho] at htr
end
end Go.VL
