/- A function whose condition holds does what its signature says. -/
import Derived.Test.YtkcgbkijlnpoiaaPiPw
namespace Go.Pi

/-- What one result holds. -/
def rvGet (a : Act) : ResultVar → Sem Value
  | .tmp t => pure (a.tmps.getD t undef)
  | .cell q t => do loadVar t (← asAddr (a.tmps.getD q undef))

theorem resultsL_run {P : Program} {w : World} (a : Act) : ∀ (rs : List ResultVar) (us : List Value), us.length = rs.length → (∀ (k : Nat) (r : ResultVar) (u : Value), rs[k]? = some r → us[k]? = some u → (rvGet a r).run P w = .ok u w) →
    (rs.mapM (rvGet a)).run P w = .ok us w
  | [], [], _, _ => by simp
  | r :: rs, u :: us, hl, h => by
    have h0 := h 0 r u rfl rfl
    have h1 := resultsL_run a rs us (by simpa using hl) (fun k r' u' hr hu => h (k + 1) r' u' (by simpa using hr) (by simpa using hu))
    simp [h0, h1]
  | [], _ :: _, hl, _ => by cases hl
  | _ :: _, [], hl, _ => by cases hl

theorem results_run {P : Program} {w : World} {fn : Func} {us : List Value} (a : Act) (hl : us.length = fn.results.toList.length)
    (h : ∀ (k : Nat) (r : ResultVar) (u : Value), fn.results.toList[k]? = some r → us[k]? = some u → (rvGet a r).run P w = .ok u w) :
    (results fn a.tmps).run P w = .ok (retVal us) w := by
  have h1 := resultsL_run a fn.results.toList us hl h
  have h2 : (results fn a.tmps) = (do let vs ← fn.results.mapM (rvGet a); pure (if h : vs.size = 1 then vs[0] else .tuple vs)) := by
    unfold results
    congr 1
  have h3 : fn.results = fn.results.toList.toArray := by simp
  rw [h2, h3, List.mapM_toArray]
  simp only [Sem.run_bind, Sem.run_map]
  rw [h1]
  simp only [Result.andThen]
  match us with
  | [] => simp [retVal]
  | [s] => simp [retVal]
  | s1 :: s2 :: ss => simp [retVal]

section
variable {P : Program} {C : Ctx} {E : Env} {A : Ann} {F : Fr} {ow : Nat → Option Nat} {a : Act} {w : World}

theorem drop_drop (F : Fr) (s : Nat) : (F.drop s).drop s = F.drop s := by
  funext q
  cases hq : Nat.beq q s with
  | true => simp [Fr.drop, hq]
  | false =>
    cases hF : F q with
    | none => simp [Fr.drop, Fr.clr, hq, hF]
    | some e =>
      cases hr : e.root with
      | none => simp [Fr.drop, Fr.clr, hq, hF, hr]
      | some r => cases hb : Nat.beq r s <;> simp [Fr.drop, Fr.clr, hq, hF, hr, hb]

/-- The results that were taken: the j-th is the holder n + 1 + j's. -/
def Taken (P : Program) (C : Ctx) (a : Act) (w : World) (rs : List ResultVar) (ts : List Ty) (j : Nat) (ow : Nat → Option Nat) (ds : List D) : Prop :=
    ∃ (us : List Value) (G : Fr) (ow' : Nat → Option Nat), us.length = rs.length ∧ (∀ (k : Nat) (r : ResultVar) (u : Value), rs[k]? = some r → us[k]? = some u → (rvGet a r).run P w = .ok u w) ∧ us.length = ts.length ∧ ds.length = ts.length ∧ Rel C G ow' a w ∧ (∀ b, Stb C ow w b → Stb C ow' w b) ∧
      (∀ b q, ow b = some q → (q ∈ C.prot ∨ C.n ≤ q) → ow' b = some q) ∧ (∀ b q, ow' b = some q → q ∈ C.prot → ow b = some q) ∧ (∀ b q, ow' b = some q → C.n ≤ q → ow b = some q ∨ C.n + 1 + j ≤ q) ∧
      ∀ (k : Nat) (t : Ty) (u : Value) (d : D), ts[k]? = some t → us[k]? = some u → ds[k]? = some d → ∃ cs, u = mkV t cs ∧ rep w (Stb C ow' w) t (fun b => ow' b = some (C.n + 1 + (j + k))) d cs

/-- Results are taken out of their slots. -/
theorem takeRes_ok {T : Nat → TI} (hT : TOk P T) (hA : A.prot = C.prot) : ∀ (rs : List ResultVar) (ts : List Ty) (j : Nat) (F : Fr) (ow : Nat → Option Nat) (ds : List D), Rel C F ow a w → takeRes T A F rs ts = some ds → Taken P C a w rs ts j ow ds
  | [], [], j, F, ow, ds, R, h => by
    simp only [takeRes, Option.some.injEq] at h
    subst h
    exact ⟨[], F, ow, rfl, fun k r u h => by simp at h, rfl, rfl, R, fun _ h => h, fun _ _ h _ => h, fun _ _ h _ => h, fun _ _ h _ => .inl h, fun k t s d h => by simp at h⟩
  | rv :: rs, t :: ts, j, F, ow, ds, R, h => by
    have hpn : ∀ s, s ∈ C.prot → s < C.n := R.protlt
    have fin : ∀ (F1 : Fr) (ow1 : Nat → Option Nat) (d : D) (ds' : List D) (u : Value), Rel C F1 ow1 a w → takeRes T A F1 rs ts = some ds' → (rvGet a rv).run P w = .ok u w → (∀ b, Stb C ow w b → Stb C ow1 w b) →
        (∀ b q, ow b = some q → (q ∈ C.prot ∨ C.n ≤ q) → ow1 b = some q) → (∀ b q, ow1 b = some q → q ∈ C.prot → ow b = some q) → (∀ b q, ow1 b = some q → C.n ≤ q → ow b = some q ∨ q = C.n + 1 + j) →
        (∃ cs, u = mkV t cs ∧ rep w (Stb C ow1 w) t (fun b => ow1 b = some (C.n + 1 + j)) d cs) → ds = d :: ds' → Taken P C a w (rv :: rs) (t :: ts) j ow ds := by
      intro F1 ow1 d ds' u R1 h1 hu k1 k2 k3 k4 ⟨cs, e1, r1⟩ hds
      obtain ⟨us, G, ow', g1, g0, g2, g3, g4, g5, g6, g7, g8, g9⟩ := takeRes_ok hT hA rs ts (j + 1) F1 ow1 ds' R1 h1
      refine ⟨u :: us, G, ow', by simp [g1], fun k r u' hr hu' => ?_, by simp [g2], by simp [hds, g3], g4, fun b hb => g5 b (k1 b hb), fun b q hb hq => g6 b q (k2 b q hb hq) hq, fun b q hb hq => k3 b q (g7 b q hb hq) hq,
        fun b q hb hq => ?_, fun k t' s' d' ht hs hd => ?_⟩
      · cases k with
        | zero =>
          simp only [List.getElem?_cons_zero, Option.some.injEq] at hr hu'
          subst hr hu'
          exact hu
        | succ k =>
          simp only [List.getElem?_cons_succ] at hr hu'
          exact g0 k r u' hr hu'
      · rcases g8 b q hb hq with h | h
        · rcases k4 b q h hq with h | h
          · exact .inl h
          · exact .inr (by omega)
        · exact .inr (by omega)
      · subst hds
        cases k with
        | zero =>
          simp only [List.getElem?_cons_zero, Option.some.injEq] at ht hs hd
          subst ht hs hd
          exact ⟨cs, e1, rep_mono (fun b hb => ⟨g5 b hb, rfl⟩) _ _ _ _ _ (fun b hb => ⟨g6 b _ hb (.inr (by omega)), rfl⟩) r1⟩
        | succ k =>
          simp only [List.getElem?_cons_succ] at ht hs hd
          have := g9 k t' s' d' ht hs hd
          rwa [show j + 1 + k = j + (k + 1) by omega] at this
    have tk : ∀ (r s : Nat) (F2 : Fr) (t2 : Ty) (d2 d3 : D) (ds' : List D) (u : Value), F.take A r = some (F2, t2, d2) → takeRes T A (F2.drop s) rs ts = some ds' → (rvGet a rv).run P w = .ok u w →
        (∀ (S O : Nat → Prop) (cs : List Value), tmOf a r = mkV t2 cs → rep w S t2 O d2 cs → ∃ cs', u = mkV t cs' ∧ rep w S t O d3 cs') → ds = d3 :: ds' → Taken P C a w (rv :: rs) (t :: ts) j ow ds := by
      intro r s F2 t2 d2 d3 ds' u hF2 h1 hu hc hds
      obtain ⟨_, _, hnp, _, _⟩ := R.take hA hF2
      obtain ⟨hr, R1, k1, cs, e1, r1⟩ := R.takeTo (q := C.n + 1 + j) hA (by omega) hF2
      exact fin (F2.drop s) (give ow r (some (C.n + 1 + j))) d3 ds' u (R1.sub fun q e hq => (drop_some hq).2.1) h1 hu k1 (fun b q hb hq => give_ne hb (fun e => by
        subst e; rcases hq with hq | hq
        · exact hnp hq
        · omega))
        (fun b q hb hq => by
          rcases give_some hb with ⟨_, rfl⟩ | ⟨h, _⟩
          · have := hpn _ hq; omega
          · exact h)
        (fun b q hb hq => by
          rcases give_some hb with ⟨_, rfl⟩ | ⟨h, _⟩
          · exact .inr rfl
          · exact .inl h)
        (hc _ _ cs e1 r1) hds
    cases rv with
    | tmp s =>
      unfold takeRes at h
      rw [Option.bind_eq_some_iff] at h
      obtain ⟨e0, he, h⟩ := h
      split at h
      · rename_i t' d
        replace h := bind_guard h; obtain ⟨hk, h⟩ := h
        simp only [Option.map_eq_some_iff] at h
        obtain ⟨ds', hds, rfl⟩ := h
        simp only [Bool.and_eq_true, Bool.or_eq_true, decide_eq_true_eq, Bool.not_eq_true'] at hk
        obtain ⟨hk, hp⟩ := hk
        have hnp : s ∉ C.prot := by rw [← hA]; intro hm; rw [List.contains_iff_mem.mpr hm] at hp; cases hp
        by_cases ht : t' = t
        · have htk : F.take A s = some (F.drop s, t', d) := by unfold Fr.take; rw [he]; simp only [hp]
          refine tk s s (F.drop s) t' d d ds' (tmOf a s) htk (by rw [drop_drop]; exact hds) (by simp [rvGet, tmOf]) (fun S O cs h1 h2 => ⟨cs, by rw [← ht]; exact h1, by rw [← ht]; exact h2⟩) rfl
        · have ht2 : t'.frz = t := hk.resolve_left ht
          have hfr : F.freeze A s = some fun q => bif Nat.beq q s then some (.val t'.frz d) else (F q).map (·.frzAt s) := by
            unfold Fr.freeze; rw [he]; simp only [hp]; rfl
          obtain ⟨R1, _, hst⟩ := R.freeze hA hfr
          have hs := R.lt s _ he
          have R2 : Rel C (F.drop s) (give ow s none) a w := by
            refine R1.sub fun q e hq => ?_
            obtain ⟨h1, h2, h3⟩ := drop_some hq
            have hb : Nat.beq q s = false := by cases hb : Nat.beq q s with | true => exact absurd (Nat.eq_of_beq_eq_true hb) h1 | false => rfl
            rw [hb]
            simp only [cond_false, h2, Option.map_some, Option.some.injEq]
            cases e with
            | val => rfl
            | hd => rfl
            | pk t0 d0 r π =>
              have : Nat.beq r s = false := by cases hb : Nat.beq r s with | true => exact absurd (by simp [Ent.root, Nat.eq_of_beq_eq_true hb]) h3 | false => rfl
              simp only [Ent.frzAt, this, cond_false]
            | pt t0 d0 r π =>
              have : Nat.beq r s = false := by cases hb : Nat.beq r s with | true => exact absurd (by simp [Ent.root, Nat.eq_of_beq_eq_true hb]) h3 | false => rfl
              simp only [Ent.frzAt, this, cond_false]
          obtain ⟨cs, e1, h1⟩ := R.ents s _ he
          refine fin (F.drop s) _ d ds' (tmOf a s) R2 hds (by simp [rvGet, tmOf]) (fun b hb => hst b (.inl hb)) (fun b q hb hq => give_ne hb (fun e => by
            subst e; rcases hq with hq | hq
            · exact hnp hq
            · omega)) (fun b q hb _ => (give_some' hb).1) (fun b q hb _ => .inl (give_some' hb).1) ⟨cs, by rw [← ht2, mkV_frz]; exact e1, ?_⟩ rfl
          rw [← ht2]
          exact rep_frz (fun b h => hst b (.inl h)) (fun b h => hst b (.inr h)) h1
      · rename_i t' d r
        rw [Option.bind_eq_some_iff] at h
        obtain ⟨⟨F2, t2, d2⟩, hF2, h⟩ := h
        replace h := bind_guard h; obtain ⟨hk, h⟩ := h
        simp only [Option.map_eq_some_iff] at h
        obtain ⟨ds', hds, rfl⟩ := h
        obtain ⟨cs, _, _, hl⟩ := R.ents s _ he
        have hk : t2 = t := of_decide_eq_true hk
        exact tk r s F2 t2 d2 d2 ds' (tmOf a s) hF2 hds (by simp [rvGet, tmOf]) (fun S O cs h1 h2 => ⟨cs, by rw [(hl [] rfl).1 rfl, ← hk]; exact h1, by rw [← hk]; exact h2⟩) rfl
      · cases h
    | cell s ty =>
      unfold takeRes at h
      rw [Option.bind_eq_some_iff] at h
      obtain ⟨e0, he, h⟩ := h
      split at h
      · rename_i t' d
        replace h := bind_guard h; obtain ⟨hk, h⟩ := h
        simp only [Option.map_eq_some_iff] at h
        obtain ⟨ds', hds, rfl⟩ := h
        simp only [Bool.and_eq_true, decide_eq_true_eq, Bool.not_eq_true'] at hk
        obtain ⟨⟨ht, hfit⟩, hp⟩ := hk
        subst ht
        have htk : F.take A s = some (F.drop s, .bx true t', d) := by unfold Fr.take; rw [he]; simp only [hp]
        obtain ⟨g, cs, e1, _, hn, _, hl⟩ := val_bx R he
        refine tk s s (F.drop s) (.bx true t') d d ds' (mkV t' cs) htk (by rw [drop_drop]; exact hds) ?_ (fun S O cs' h1 h2 => ?_) rfl
        · have hrun := load_run hT hfit (w := w) hn hl
          simp only [Instr.loadAt, Instr.sureAddr, Sem.run_bind, Sem.run_pure, Result.andThen] at hrun
          have e2 : a.tmps.getD s undef = .pointer (some ⟨g, 0, none⟩) := e1
          simp only [rvGet, e2, asAddr, Sem.run_bind, Sem.run_pure, Result.andThen]
          exact hrun
        · obtain ⟨g', c, te, cells, rfl, hO, hc, hz, hn', hr, hl'⟩ := h2
          rw [e1] at h1
          simp only [mkV, List.headD_cons, Value.pointer.injEq, Option.some.injEq, Addr.mk.injEq, and_true] at h1
          subst h1
          refine ⟨cells, ?_, rep_mono (fun b hb => ⟨hb, rfl⟩) _ _ _ _ _ (fun b hb => ⟨hb.1, rfl⟩) hr⟩
          have : cs = cells := by
            apply List.ext_getElem?
            intro k
            by_cases hk : k < t'.size
            · have a1 := hl k cs[k] (List.getElem?_eq_getElem (by omega))
              have a2 := hl' k cells[k] (List.getElem?_eq_getElem (by omega))
              rw [a1] at a2
              rw [List.getElem?_eq_getElem (by omega), List.getElem?_eq_getElem (by omega)]
              exact a2
            · rw [List.getElem?_eq_none (by omega), List.getElem?_eq_none (by omega)]
          rw [this]
      · cases h
  | [], _ :: _, _, _, _, _, _, h => by simp [takeRes] at h
  | _ :: _, [], _, _, _, _, _, h => by rename_i rv _; cases rv <;> simp [takeRes] at h

theorem finals_ok : ∀ (ms : List (PM × Ty)) (n : Nat) (F : Fr) (ds : List D), finals F n ms = some ds →
    ∀ (i : Nat) (t : Ty) (d : D), ms[i]? = some (.ino, t) → ds[inoNo ms i]? = some d → F (n + i) = some (.val t d)
  | [], _, _, _, _, i, t, d, h, _ => by simp at h
  | (pm, t0) :: ms, n, F, ds, h, i, t, d, hm, hd => by
    have tl : ∀ ds', finals F (n + 1) ms = some ds' → ∀ (i : Nat) (t : Ty) (d : D), ms[i]? = some (.ino, t) → ds'[inoNo ms i]? = some d → F (n + (i + 1)) = some (.val t d) := by
      intro ds' h i t d hm hd
      have := finals_ok ms (n + 1) F ds' h i t d hm hd
      rwa [show n + 1 + i = n + (i + 1) by omega] at this
    cases pm with
    | ino =>
      simp only [finals] at h
      split at h
      · rename_i t' d' hF
        replace h := bind_guard h; obtain ⟨hk, h⟩ := h
        simp only [Option.map_eq_some_iff] at h
        obtain ⟨ds', hds, rfl⟩ := h
        have hk := of_decide_eq_true hk
        cases i with
        | zero =>
          simp only [List.getElem?_cons_zero, Option.some.injEq, Prod.mk.injEq, true_and] at hm
          simp [inoNo] at hd
          subst hm hd
          rw [Nat.add_zero, hF, hk]
        | succ i =>
          simp only [List.getElem?_cons_succ] at hm
          have : inoNo ((PM.ino, t0) :: ms) (i + 1) = inoNo ms i + 1 := by simp [inoNo]
          rw [this, List.getElem?_cons_succ] at hd
          exact tl ds' hds i t d hm hd
      · cases h
    | bor =>
      simp only [finals] at h
      cases i with
      | zero => simp at hm
      | succ i =>
        simp only [List.getElem?_cons_succ] at hm
        have : inoNo ((PM.bor, t0) :: ms) (i + 1) = inoNo ms i := by simp [inoNo]
        rw [this] at hd
        exact tl ds h i t d hm hd
    | tak =>
      simp only [finals] at h
      cases i with
      | zero => simp at hm
      | succ i =>
        simp only [List.getElem?_cons_succ] at hm
        have : inoNo ((PM.tak, t0) :: ms) (i + 1) = inoNo ms i := by simp [inoNo]
        rw [this] at hd
        exact tl ds h i t d hm hd

theorem mem_protOf {s : Nat} : ∀ (ms : List (PM × Ty)) (n : Nat), s ∈ protOf n ms ↔ ∃ i t, s = n + i ∧ ms[i]? = some (.ino, t)
  | [], n => by simp [protOf]
  | (pm, t0) :: ms, n => by
    have tl : (s ∈ protOf (n + 1) ms) ↔ ∃ i t, s = n + (i + 1) ∧ ms[i]? = some (.ino, t) := by
      rw [mem_protOf ms (n + 1)]
      constructor
      · rintro ⟨i, t, h1, h2⟩; exact ⟨i, t, by omega, h2⟩
      · rintro ⟨i, t, h1, h2⟩; exact ⟨i, t, by omega, h2⟩
    have both : (∃ i t, s = n + i ∧ ((pm, t0) :: ms)[i]? = some (PM.ino, t)) ↔ (s = n ∧ pm = .ino) ∨ ∃ i t, s = n + (i + 1) ∧ ms[i]? = some (.ino, t) := by
      constructor
      · rintro ⟨i, t, h1, h2⟩
        cases i with
        | zero => simp at h2; exact .inl ⟨by omega, h2.1⟩
        | succ i => exact .inr ⟨i, t, h1, by simpa using h2⟩
      · rintro (⟨h1, h2⟩ | ⟨i, t, h1, h2⟩)
        · exact ⟨0, t0, by omega, by simp [h2]⟩
        · exact ⟨i + 1, t, h1, by simpa using h2⟩
    rw [both, ← tl]
    cases pm <;> simp [protOf]

theorem initFr_some : ∀ (ms : List (PM × Ty)) (n : Nat) (ds : List D) (q : Nat) (e : Ent), initFr n ms ds q = some e →
    ∃ i m t d, q = n + i ∧ ms[i]? = some (m, t) ∧ ds[i]? = some d ∧ e = .val (match m with | .bor => t.frz | _ => t) d
  | [], _, _, _, _, h => by simp [initFr] at h
  | (m, t) :: ms, n, [], _, _, h => by simp [initFr] at h
  | (m, t) :: ms, n, d :: ds, q, e, h => by
    simp only [initFr] at h
    cases hb : Nat.beq q n with
    | true =>
      rw [hb] at h
      simp only [cond_true, Option.some.injEq] at h
      exact ⟨0, m, t, d, Nat.eq_of_beq_eq_true hb, rfl, rfl, h.symm⟩
    | false =>
      rw [hb] at h
      obtain ⟨i, m', t', d', h1, h2, h3, h4⟩ := initFr_some ms (n + 1) ds q e h
      exact ⟨i + 1, m', t', d', by omega, by simpa using h2, by simpa using h3, h4⟩

/-- At the begin. -/
def iniOw (S : Sg) (o : Nat → Option Nat) (b : Nat) : Option Nat := (o b).bind fun i => (S.ps[i]?).bind fun m => match m.1 with | .bor => none | _ => some i

/-- In the end: n slots. -/
def endOw (S : Sg) (n : Nat) (o : Nat → Option Nat) (b : Nat) : Option Nat := (o b).bind fun q =>
  if n < q then (if q - n - 1 < S.rs.length then some (q - n - 1) else none) else if q ∈ protOf 0 S.ps then some (S.rs.length + inoNo S.ps q) else none

/-- A function whose condition holds does what its signature says. -/
theorem vc_sound {g : Nat} {fn : Func} {S : Sg} {xs rs : List D} (hE : EnvOk P E) (hKn : Known P E) (hfn : P.funcs[g]? = some fn) (h : vc E A fn S xs rs) : Sat P S g xs rs := by
  intro w St o vs hSt ho hargs
  unfold vc at h
  split at h
  · rename_i c hbody hble
    have hle : S.ps.length ≤ fn.ntmps := Nat.le_of_ble_eq_true hble
    let C : Ctx := { w0 := w, st := St, giv := fun s b => o b = some s, tk := tkOf o, arg := fun i => vs.getD i undef, prot := protOf 0 S.ps, n := fn.ntmps }
    let ow : Nat → Option Nat := iniOw S o
    have ow_some : ∀ b i, ow b = some i → o b = some i ∧ ∃ m t, S.ps[i]? = some (m, t) ∧ m ≠ .bor := by
      intro b i hb
      have hb : iniOw S o b = some i := hb
      unfold iniOw at hb
      rw [Option.bind_eq_some_iff] at hb
      obtain ⟨j, hj, hb⟩ := hb
      rw [Option.bind_eq_some_iff] at hb
      obtain ⟨⟨m, t⟩, hx, hb⟩ := hb
      cases m with
      | bor => cases hb
      | ino => simp only [Option.some.injEq] at hb; subst hb; exact ⟨hj, _, t, hx, by simp⟩
      | tak => simp only [Option.some.injEq] at hb; subst hb; exact ⟨hj, _, t, hx, by simp⟩
    have ow_at : ∀ b i m t, o b = some i → S.ps[i]? = some (m, t) → m ≠ .bor → ow b = some i := by
      intro b i m t hb hm hne
      show iniOw S o b = some i
      unfold iniOw
      rw [hb, Option.bind_some, hm, Option.bind_some]
      cases m with
      | bor => exact absurd rfl hne
      | ino => rfl
      | tak => rfl
    have hsz : (vs.toArray ++ Array.replicate (fn.ntmps - vs.toArray.size) undef).size = fn.ntmps := by
      rw [Array.size_append, Array.size_replicate, List.size_toArray, hargs.lenV]; omega
    have htm : ∀ i, i < vs.length → tmOf { tmps := vs.toArray ++ Array.replicate (fn.ntmps - vs.toArray.size) undef, defers := [] } i = vs.getD i undef := by
      intro i hi
      simp only [tmOf]
      simp [Array.getElem?_append_left, hi, List.getD]
    have hprot : ∀ s, s ∈ protOf 0 S.ps → s < S.ps.length := by
      intro s hs
      obtain ⟨i, t, h1, h2⟩ := (mem_protOf S.ps 0).mp hs
      rw [Nat.zero_add] at h1
      subst h1
      exact (List.getElem?_eq_some_iff.mp h2).1
    have stb0 : ∀ b, St b → Stb C ow w b := by
      intro b hb
      obtain ⟨h1, h2⟩ := hSt b hb
      refine ⟨.inl hb, h1, ?_⟩
      cases hw : ow b with
      | none => rfl
      | some i => rw [(ow_some b i hw).1] at h2; cases h2
    have R0 : Rel C (fun q => initFr 0 S.ps xs q) ow { tmps := vs.toArray ++ Array.replicate (fn.ntmps - vs.toArray.size) undef, defers := [] } w := by
      have ini : ∀ s e, initFr 0 S.ps xs s = some e → EntOk w (Stb C ow w) ow (tmOf { tmps := vs.toArray ++ Array.replicate (fn.ntmps - vs.toArray.size) undef, defers := [] })
          (tmOf { tmps := vs.toArray ++ Array.replicate (fn.ntmps - vs.toArray.size) undef, defers := [] } s) s e ∧ s < S.ps.length ∧ e.root = none := by
        intro s e hs
        obtain ⟨i, m, t, d, h1, h2, h3, rfl⟩ := initFr_some S.ps 0 xs s e hs
        rw [Nat.zero_add] at h1
        subst h1
        have hi : s < S.ps.length := (List.getElem?_eq_some_iff.mp h2).1
        have hv : s < vs.length := by rw [hargs.lenV]; exact hi
        obtain ⟨cs, e1, k1, k2⟩ := hargs.each s (m, t) vs[s] d h2 (List.getElem?_eq_getElem hv) h3
        refine ⟨?_, hi, rfl⟩
        rw [htm s hv]
        have hvs : vs.getD s undef = mkV t cs := by rw [List.getD_eq_getElem?_getD, List.getElem?_eq_getElem hv]; exact e1
        cases m with
        | bor => exact ⟨cs, by rw [mkV_frz]; exact hvs, rep_of_rd _ _ _ _ (hasOwn_frz t) (rd_frz _ _ _ (rd_mono (fun b hb => ⟨stb0 b hb, rfl⟩) _ _ _ (k1 rfl)))⟩
        | ino => exact ⟨cs, hvs, rep_mono (fun b hb => ⟨stb0 b hb, rfl⟩) _ _ _ _ _ (fun b hb => ⟨ow_at b s .ino t hb h2 (by simp), rfl⟩) (k2 (by simp))⟩
        | tak => exact ⟨cs, hvs, rep_mono (fun b hb => ⟨stb0 b hb, rfl⟩) _ _ _ _ _ (fun b hb => ⟨ow_at b s .tak t hb h2 (by simp), rfl⟩) (k2 (by simp))⟩
      exact {
        ents := fun s e hs => (ini s e hs).1
        root := fun s e r hs hr => by rw [(ini s e hs).2.2] at hr; cases hr
        lt := fun s e hs => Nat.lt_of_lt_of_le (ini s e hs).2.1 hle
        size := hsz
        own := fun b s hb => by
          obtain ⟨h1, m, t, h2, h3⟩ := ow_some b s hb
          refine ⟨ho b s h1, ?_⟩
          cases m with
          | bor => exact absurd rfl h3
          | ino => exact .inl ⟨(mem_protOf S.ps 0).mpr ⟨s, t, by omega, h2⟩, h1⟩
          | tak => exact .inr (.inl (by show o b ≠ none; rw [h1]; simp))
        frame := fun _ _ _ _ => rfl
        grow := Nat.le_refl _
        os := rfl
        output := rfl
        tape := rfl
        thaw := fun _ => rfl
        defers := rfl
        prot := fun s hs => htm s (by rw [hargs.lenV]; exact hprot s hs)
        givtk := fun s b (h : o b = some s) => by show o b ≠ none; rw [h]; simp
        protlt := fun s hs => Nat.lt_of_lt_of_le (hprot s hs) hle }
    refine calls_of_wp hfn hbody ?_
    refine pw_ok (A := { A with prot := protOf 0 S.ps, n := fn.ntmps }) hE hKn rfl rfl c _ ow _ w _ _ (fun e F ow1 a1 w1 hk R1 => ?_) h R0
    have fin : orL ((takeRes E.T { A with prot := protOf 0 S.ps, n := fn.ntmps } F fn.results.toList S.rs).bind fun a => (finals F 0 S.ps).map (a ++ ·)) (· = rs) →
        a1.defers = [] ∧ ∃ v, (results fn a1.tmps).run P w1 = .ok v w1 ∧ ∃ o' rvs, Ending.returned v = .returned (retVal rvs) ∧ Post S w w1 St o o' vs rvs rs := by
      intro hk
      obtain ⟨l, hl, rfl⟩ := orL_some hk
      rw [Option.bind_eq_some_iff] at hl
      obtain ⟨da, hda, hl⟩ := hl
      simp only [Option.map_eq_some_iff] at hl
      obtain ⟨df, hdf, rfl⟩ := hl
      obtain ⟨us, G, ow2, g1, g0, g2, g3, R2, g5, g6, g7, g8, g9⟩ := takeRes_ok hE.1 (A := { A with prot := protOf 0 S.ps, n := fn.ntmps }) rfl _ _ 0 F ow1 da R1 hda
      refine ⟨R1.defers, _, results_run a1 g1 g0, ?_⟩
      let o' : Nat → Option Nat := endOw S C.n ow2
      have o'_some : ∀ b j, o' b = some j → ∃ q, ow2 b = some q ∧ ((C.n < q ∧ j = q - C.n - 1 ∧ j < S.rs.length) ∨ (q ∈ protOf 0 S.ps ∧ j = S.rs.length + inoNo S.ps q)) := by
        intro b j hb
        have hb : endOw S C.n ow2 b = some j := hb
        unfold endOw at hb
        rw [Option.bind_eq_some_iff] at hb
        obtain ⟨q, hq, hb⟩ := hb
        split at hb
        · split at hb
          · simp only [Option.some.injEq] at hb
            exact ⟨q, hq, .inl ⟨by assumption, hb.symm, by omega⟩⟩
          · cases hb
        · split at hb
          · simp only [Option.some.injEq] at hb
            exact ⟨q, hq, .inr ⟨by assumption, hb.symm⟩⟩
          · cases hb
      have o'_res : ∀ b k, k < S.rs.length → ow2 b = some (C.n + 1 + (0 + k)) → o' b = some k := by
        intro b k hk hb
        show endOw S C.n ow2 b = some k
        unfold endOw
        rw [hb, Option.bind_some, if_pos (by omega), if_pos (by omega)]
        congr 1; omega
      have o'_ino : ∀ b i t, S.ps[i]? = some (.ino, t) → ow2 b = some i → o' b = some (S.rs.length + inoNo S.ps i) := by
        intro b i t ht hb
        show endOw S C.n ow2 b = _
        have hi := (List.getElem?_eq_some_iff.mp ht).1
        unfold endOw
        rw [hb, Option.bind_some, if_neg (by show ¬ fn.ntmps < i; omega), if_pos ((mem_protOf S.ps 0).mpr ⟨i, t, by omega, ht⟩)]
      have stb' : ∀ b, Stb C ow2 w1 b → (St b ∨ tkOf o b ∨ w.heap.size ≤ b) ∧ b < w1.heap.size ∧ o' b = none := by
        intro b hb
        refine ⟨hb.1, hb.2.1, ?_⟩
        show (ow2 b).bind _ = none
        rw [hb.2.2]; rfl
      refine ⟨o', us, rfl, ?_⟩
      refine { res := ⟨g2, by simp [g3], fun j t v d ht hv hd => ?_⟩, fin := fun i t v d hm hv hd => ?_, own := fun b j hb => ?_, frame := fun b h1 h2 => ?_, grow := R2.grow, os := R2.os, output := R2.output, tape := R2.tape, thaw := R2.thaw }
      · have hj : j < S.rs.length := (List.getElem?_eq_some_iff.mp ht).1
        have hd' : da[j]? = some d := by
          rw [List.getElem?_take, if_pos hj, List.getElem?_append_left (by omega)] at hd
          exact hd
        obtain ⟨cs, e1, r1⟩ := g9 j t v d ht hv hd'
        exact ⟨cs, e1, rep_mono (fun b hb => ⟨stb' b hb, rfl⟩) _ _ _ _ _ (fun b hb => ⟨o'_res b j hj hb, rfl⟩) r1⟩
      · have hdr : (da ++ df).drop S.rs.length = df := by rw [← g3]; simp
        rw [hdr] at hd
        have hF := finals_ok S.ps 0 F df hdf i t d hm hd
        rw [Nat.zero_add] at hF
        obtain ⟨cs, e1, r1⟩ := R1.ents i _ hF
        have hp : i ∈ protOf 0 S.ps := (mem_protOf S.ps 0).mpr ⟨i, t, by omega, hm⟩
        refine ⟨cs, ?_, rep_mono (fun b hb => ⟨stb' b (g5 b hb), rfl⟩) _ _ _ _ _ (fun b hb => ⟨o'_ino b i t hm (g6 b i hb (.inl hp)), rfl⟩) r1⟩
        rw [← e1, R1.prot i hp]
        show v = vs.getD i undef
        rw [List.getD_eq_getElem?_getD, hv]; rfl
      · obtain ⟨q, hq, hj⟩ := o'_some b j hb
        obtain ⟨h1, h2⟩ := R2.own b q hq
        refine ⟨h1, ?_⟩
        rcases h2 with h2 | h2 | h2
        · exact .inl (R2.givtk _ _ h2.2)
        · exact .inl h2
        · exact .inr h2
      · exact R2.frame b h1 (fun ⟨s, _, hs⟩ => by have hs : o b = some s := hs; rw [h2] at hs; cases hs) (fun hi => hi h2)
    cases e with
    | exit id => exact hk.elim
    | normal => exact fin hk
    | ret => exact fin hk
  · exact h.elim

end
end Go.Pi
