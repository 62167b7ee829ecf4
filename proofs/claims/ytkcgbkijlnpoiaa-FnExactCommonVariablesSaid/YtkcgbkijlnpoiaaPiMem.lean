/- Each operation does what the generator says: memory that is read. -/
import Derived.Test.YtkcgbkijlnpoiaaPiOps2
namespace Go.Pi

section
variable {P : Program} {C : Ctx} {T : Nat → TI} {F F1 : Fr} {ow : Nat → Option Nat} {a : Act} {w : World} {e : Ent} {vc : Prop} {o : Oper}

theorem add_plain (g q j : Nat) : (⟨g, q, none⟩ : Addr).add j = ⟨g, q + j, none⟩ := by unfold Addr.add; split <;> simp_all

theorem add_spot {b : Addr} (h : b.spot = none) (j : Nat) : b.add j = ⟨b.block, b.off + j, none⟩ := by
  obtain ⟨g, q, s⟩ := b
  simp only at h; subst h
  exact add_plain g q j

def isAggD : TypeDesc → Bool
  | .struct _ | .array _ _ => true
  | _ => false

/-- The type's size, and how its values are loaded. -/
theorem fits_info (hT : TOk P T) {t : Nat} {τ : Ty} (h : fitsTy T t τ = true) : ∃ i, P.info? t = some i ∧ i.size = τ.size ∧ ∃ d, P.underlying t = some d ∧ isAggD d = τ.isAgg := by
  have h1 := hT t
  unfold fitsTy at h
  cases ht : T t with
  | none => rw [ht] at h; cases h
  | base τ' =>
    rw [ht] at h h1
    simp only [Bool.and_eq_true, decide_eq_true_eq] at h
    obtain ⟨rfl, h⟩ := h
    obtain ⟨i, hi, hs, _, _, hu⟩ := h1
    cases τ' <;> simp only [Bool.false_eq_true] at h hu <;> exact ⟨i, hi, hs, _, hu, rfl⟩
  | slice e bytes et =>
    rw [ht] at h h1
    obtain ⟨i, _, hi, hs, hu, _⟩ := h1
    cases τ <;> simp only [Bool.false_eq_true] at h
    exact ⟨i, hi, hs, _, hu, rfl⟩
  | struct fs τ' =>
    rw [ht] at h h1
    obtain ⟨i, gs, hi, hu, hs, _⟩ := h1
    cases τ <;> simp only [Bool.false_eq_true] at h
    exact ⟨i, hi, by rw [hs]; exact (Nat.eq_of_beq_eq_true h).symm, _, hu, rfl⟩

theorem fitsPl_info (hT : TOk P T) {t : Nat} {τ : Ty} (h : fitsPl T t τ = true) : ∃ i, P.info? t = some i ∧ i.size = τ.size := by
  unfold fitsPl at h
  split at h
  · split at h
    · rename_i e bytes et ht
      obtain ⟨i, hi, hs, _⟩ := fits_info hT (t := t) (τ := .sl true et) (by unfold fitsTy; rw [ht])
      exact ⟨i, hi, hs⟩
    · cases h
  · obtain ⟨i, hi, hs, _⟩ := fits_info hT h
    exact ⟨i, hi, hs⟩

theorem fitsPl_of (t : Nat) {τ : Ty} (h : fitsTy T t τ = true) : fitsPl T t τ = true := by
  unfold fitsPl
  split
  · unfold fitsTy at h
    cases ht : T t with
    | none => rw [ht] at h; cases h
    | base τ' => rw [ht] at h; simp at h
    | slice e bytes et => rfl
    | struct fs τ' => rw [ht] at h; cases h
  · exact h

theorem run_isAgg {t : Nat} {d : TypeDesc} (hu : P.underlying t = some d) : (isAgg t).run P w = .ok (isAggD d) w := by
  unfold isAgg
  rw [Sem.run_bind, run_underlying hu w]
  cases d <;> rfl

theorem mkV_one {τ : Ty} {v : Value} (h : τ.isAgg = false) (h1 : τ.size = 1) : mkV τ [v] = v := by
  cases τ <;> simp_all [mkV, Ty.isAgg, Ty.size]

theorem size_one {τ : Ty} {t : Nat} (hT : TOk P T) (h : fitsTy T t τ = true) (ha : τ.isAgg = false) : τ.size = 1 := by
  unfold fitsTy at h
  cases ht : T t with
  | none => rw [ht] at h; cases h
  | base τ' => rw [ht] at h; simp only [Bool.and_eq_true] at h; cases τ <;> simp_all [Ty.size]
  | slice e bytes et => rw [ht] at h; cases τ <;> simp_all [Ty.size]
  | struct fs τ' => rw [ht] at h; cases τ <;> simp_all [Ty.isAgg]

theorem load_run (hT : TOk P T) {t : Nat} {τ : Ty} (h : fitsTy T t τ = true) {g q : Nat} {cs : List Value} (hn : cs.length = τ.size) (hl : lies w g q cs) :
    (Instr.loadAt t (.pointer (some ⟨g, q, none⟩))).run P w = .ok (mkV τ cs) w := by
  obtain ⟨i, hi, hs, d, hu, hd⟩ := fits_info hT h
  cases ha : τ.isAgg with
  | true =>
    rw [ha] at hd
    have h2 : (loadCells ⟨g, q, none⟩ cs.length).run P w = .ok cs.toArray w := run_loadCells_list w _ cs fun j v hv => by rw [add_plain]; exact hl j v hv
    have h3 : mkV τ cs = .agg cs.toArray := by cases τ <;> simp_all [Ty.isAgg, mkV]
    simp [Instr.loadAt, Instr.sureAddr, loadVar, run_isAgg hu, hd, sizeOf, typeInfo, hi, hs, ← hn, h2, h3]
  | false =>
    rw [ha] at hd
    have h1 := size_one hT h ha
    rw [h1] at hn
    obtain ⟨v, rfl⟩ := List.length_eq_one_iff.mp hn
    have := hl 0 v rfl
    simp [Instr.loadAt, Instr.sureAddr, loadVar, run_isAgg hu, hd, mkV_one ha h1] 
    rw [show w.cell? ⟨g, q, none⟩ = some v from this]

/-- What a box, or a pointer, of a slot leads to. -/
theorem val_bx {s : Nat} {τ : Ty} {d : D} (R : Rel C F ow a w) (h : F s = some (.val (.bx true τ) d)) : ∃ g cs, tmOf a s = .pointer (some ⟨g, 0, none⟩) ∧ ow g = some s ∧ cs.length = τ.size ∧
    look w (Stb C ow w) (fun b => ow b = some s) τ d cs ∧ lies w g 0 cs := by
  obtain ⟨cs, e1, g, c, te, cells, rfl, hO, hc, hz, hn, hr, hl⟩ := R.ents s _ h
  exact ⟨g, cells, e1, hO, hn, rep_look _ _ _ _ _ (fun b hb => hb.1) hr, hl⟩

theorem loadE_ok {t : Nat} {p : Operand} (hT : TOk P T) (R : Rel C F ow a w) (ho : o.op = .load t p) (h : loadE T t p F = some (F1, e, vc)) (hv : vc) : OpOk P C o a w F1 e := by
  have ex : ∀ {g q : Nat} {τ : Ty} {cs : List Value}, fitsTy T t τ = true → a.eval p = .pointer (some ⟨g, q, none⟩) → cs.length = τ.size → lies w g q cs → (execOp a.eval o).run P w = .ok (.value (mkV τ cs)) w := by
    intro g q τ cs h1 h2 h3 h4
    simp [execOp, ho, h2, load_run hT h1 h3 h4]
  unfold loadE at h
  rw [Option.bind_eq_some_iff] at h
  obtain ⟨e0, he, h⟩ := h
  have hpt : ∀ τ d r π, e0 = .pt τ d r π → ∃ s, p = .tmp s ∧ F s = some (.pt τ d r π) := by
    rintro τ d r π rfl
    cases p with
    | tmp s => exact ⟨s, rfl, he⟩
    | const v => simp only [ev, Option.map_eq_some_iff] at he; obtain ⟨_, _, h⟩ := he; cases h
    | func f => cases he
    | global g => cases he
  split at h
  · rename_i τ d
    split at h
    · rename_i s
      replace h := bind_guard h; obtain ⟨hf, h⟩ := h
      obtain ⟨g, cs, hp, hg, hn, hl, hlie⟩ := val_bx R he
      have hrun := ex hf hp hn hlie
      split at h
      · simp only [Option.some.injEq, Prod.mk.injEq] at h
        obtain ⟨rfl, rfl, _⟩ := h
        refine ⟨_, w, hrun, ow, R, ⟨cs, rfl, hl, fun σ hσ => ?_⟩, fun r hr => by cases hr; exact R.lt s _ he⟩
        cases hσ
        exact ⟨(fun h => by cases h), fun _ => ⟨g, 0, ⟨_, hp, rfl, rfl⟩, hg, hlie⟩⟩
      · rename_i ho'
        simp only [res, Option.some.injEq, Prod.mk.injEq] at h
        obtain ⟨rfl, rfl, _⟩ := h
        exact ⟨_, w, hrun, Left.of_rd R ho' rfl (rd_look _ _ _ ho' hl)⟩
    · cases h
  · rename_i τ d
    replace h := bind_guard h; obtain ⟨hf, h⟩ := h
    simp only [res, Option.some.injEq, Prod.mk.injEq] at h
    obtain ⟨rfl, rfl, _⟩ := h
    have hview : view T 0 F p = some (.bx false τ, d) := by unfold view; rw [he]
    obtain ⟨cs, hp, aa, cells, rfl, hs, hS, hn, hr, hl⟩ := view_look R hview
    obtain ⟨g, q, sp⟩ := aa
    simp only at hs; subst hs
    have hrun := ex hf hp hn hl
    exact ⟨_, w, hrun, Left.of_rd R (hasOwn_frz τ) (mkV_frz τ cells).symm (rd_frz _ _ _ hr)⟩
  · rename_i τ d r π
    obtain ⟨s, rfl, hF⟩ := hpt _ _ _ _ rfl
    replace h := bind_guard h; obtain ⟨hf, h⟩ := h
    obtain ⟨g, q, cs, e1, hg, hn, hl, hlie, hp⟩ := R.ents s _ hF
    have hrun := ex hf e1 hn hlie
    split at h
    · simp only [Option.some.injEq, Prod.mk.injEq] at h
      obtain ⟨rfl, rfl, _⟩ := h
      refine ⟨_, w, hrun, ow, R, ⟨cs, rfl, hl, fun σ hσ => ⟨fun h0 => ?_, fun _ => ⟨g, q, hp σ hσ, hg, hlie⟩⟩⟩, fun r' hr => by cases hr; exact R.root s _ _ hF rfl⟩
      subst h0
      exact (hp [] hσ).elim
    · rename_i ho'
      simp only [res, Option.some.injEq, Prod.mk.injEq] at h
      obtain ⟨rfl, rfl, _⟩ := h
      exact ⟨_, w, hrun, Left.of_rd R ho' rfl (rd_look _ _ _ ho' hl)⟩
  · cases h


theorem goL_flat {X : Nat → Prop} {g' q' : Nat} : ∀ (π σ : Path) (g q : Nat), flatPath σ = true → goL w X g q g q [] → True
  | _, _, _, _, _, _ => trivial

theorem goL_append {X : Nat → Prop} {g1 q1 g2 q2 : Nat} (σ : Path) (h2 : goL w X g2 q2 g1 q1 σ) : ∀ (π : Path) (g q : Nat), goL w X g1 q1 g q π → goL w X g2 q2 g q (π ++ σ)
  | [], g, q, h => by obtain ⟨rfl, rfl⟩ := h; exact h2
  | .fst :: π, _, _, h => goL_append σ h2 π _ _ h
  | .snd _ :: π, _, _, h => goL_append σ h2 π _ _ h
  | .idx _ _ :: π, _, _, ⟨b, n, c, hX, hc, h⟩ => ⟨b, n, c, hX, hc, goL_append σ h2 π _ _ h⟩
  | .deref :: π, _, _, ⟨b, hX, hc, h⟩ => ⟨b, hX, hc, goL_append σ h2 π _ _ h⟩

theorem placeL_append {X : Nat → Prop} {v : Value} {g1 q1 g2 q2 : Nat} (σ : Path) (h2 : goL w X g2 q2 g1 q1 σ) : ∀ (π : Path), placeL w X v g1 q1 π → placeL w X v g2 q2 (π ++ σ)
  | .idx _ _ :: π, ⟨b, n, c, e, h⟩ => ⟨b, n, c, e, goL_append σ h2 π _ _ h⟩
  | .deref :: π, ⟨b, e, h⟩ => ⟨b, e, goL_append σ h2 π _ _ h⟩
  | [], h => h.elim
  | .fst :: _, h => h.elim
  | .snd _ :: _, h => h.elim

/-- A field's place inside a struct. -/
theorem fieldStep_look {S X : Nat → Prop} : ∀ (n q0 : Nat) (τ : Ty) (d : D) (π : Path) (off : Nat) (τ' : Ty) (d' : D) (cs : List Value), fieldStep n q0 τ d = some (π, off, τ', d') → look w S X τ d cs →
    ∃ pre cs' post, cs = pre ++ cs' ++ post ∧ q0 + pre.length = off ∧ cs'.length = τ'.size ∧ look w S X τ' d' cs' ∧ ∀ (Y : Nat → Prop) (g q : Nat), goL w Y g (q + pre.length) g q π
  | 0, q0, τ, d, π, off, τ', d', cs, h, hl => by
    cases τ <;> simp only [fieldStep, Option.some.injEq, Prod.mk.injEq, reduceCtorEq] at h
    obtain ⟨rfl, rfl, rfl, rfl⟩ := h
    obtain ⟨c1, c2, rfl, hn, l1, l2⟩ := hl
    exact ⟨[], c1, c2, by simp, by simp, hn, l1, fun Y g q => ⟨rfl, by simp⟩⟩
  | n + 1, q0, τ, d, π, off, τ', d', cs, h, hl => by
    cases τ <;> simp only [fieldStep, Option.map_eq_some_iff, Prod.mk.injEq, reduceCtorEq] at h
    rename_i A B
    obtain ⟨⟨π0, off0, τ0, d0⟩, h, rfl, rfl, rfl, rfl⟩ := h
    obtain ⟨c1, c2, rfl, hn, l1, l2⟩ := hl
    obtain ⟨pre, cs', post, rfl, h1, h2, h3, h4⟩ := fieldStep_look n _ B _ _ _ _ _ _ h l2
    refine ⟨c1 ++ pre, cs', post, by simp, by simp; omega, h2, h3, fun Y g q => ?_⟩
    have := h4 Y g (q + A.size)
    simp only [List.length_append, hn]
    rw [← Nat.add_assoc]
    exact this

theorem fieldStep_rd {S : Nat → Prop} : ∀ (n q0 : Nat) (τ : Ty) (d : D) (π : Path) (off : Nat) (τ' : Ty) (d' : D) (cs : List Value), fieldStep n q0 τ d = some (π, off, τ', d') → rd w S τ d cs →
    ∃ pre cs' post, cs = pre ++ cs' ++ post ∧ q0 + pre.length = off ∧ cs'.length = τ'.size ∧ rd w S τ' d' cs'
  | 0, q0, τ, d, π, off, τ', d', cs, h, hl => by
    cases τ <;> simp only [fieldStep, Option.some.injEq, Prod.mk.injEq, reduceCtorEq] at h
    obtain ⟨rfl, rfl, rfl, rfl⟩ := h
    obtain ⟨c1, c2, rfl, hn, l1, l2⟩ := hl
    exact ⟨[], c1, c2, by simp, by simp, hn, l1⟩
  | n + 1, q0, τ, d, π, off, τ', d', cs, h, hl => by
    cases τ <;> simp only [fieldStep, Option.map_eq_some_iff, Prod.mk.injEq, reduceCtorEq] at h
    rename_i A B
    obtain ⟨⟨π0, off0, τ0, d0⟩, h, rfl, rfl, rfl, rfl⟩ := h
    obtain ⟨c1, c2, rfl, hn, l1, l2⟩ := hl
    obtain ⟨pre, cs', post, rfl, h1, h2, h3⟩ := fieldStep_rd n _ B _ _ _ _ _ _ h l2
    exact ⟨c1 ++ pre, cs', post, by simp, by simp; omega, h2, h3⟩

theorem lies_mid {g q : Nat} {pre cs post : List Value} (h : lies w g q (pre ++ cs ++ post)) : lies w g (q + pre.length) cs := by
  intro j v hv
  have := h (pre.length + j) v (by
    have hj : j < cs.length := (List.getElem?_eq_some_iff.mp hv).1
    rw [List.append_assoc, List.getElem?_append_right (by omega), List.getElem?_append_left (by omega)]
    simpa using hv)
  rwa [← Nat.add_assoc] at this

/-- The address of a field. -/
theorem field_run (hT : TOk P T) {s f off tf : Nat} {fs : List (Nat × Nat)} {τs τ : Ty} (hs : T s = .struct fs τs) (hf : fs[f]? = some (off, tf)) (hfit : fitsPl T tf τ = true) (hz : 0 < τ.size) (g q : Nat) :
    (Instr.fieldAt s (.pointer (some ⟨g, q, none⟩)) f).run P w = .ok (.pointer (some ⟨g, q + off, none⟩)) w := by
  have h1 := hT s
  rw [hs] at h1
  obtain ⟨_, gs, _, hu, _, _, _, _, hgs, _⟩ := h1
  obtain ⟨i, hi, hsz⟩ := fitsPl_info hT hfit
  rw [← hgs, List.getElem?_map] at hf
  cases hg : gs.toList[f]? with
  | none => rw [hg] at hf; cases hf
  | some fl =>
    rw [hg] at hf
    simp only [Option.map_some, Option.some.injEq, Prod.mk.injEq] at hf
    obtain ⟨rfl, rfl⟩ := hf
    have hg' : gs[f]? = some fl := by simpa using hg
    have : ¬ τ.size = 0 := by omega
    simp [Instr.fieldAt, run_underlying hu, hg', Instr.sureAddr, fieldPlace, sizeOf, typeInfo, hi, hsz, this, add_plain]

theorem ev_pt {p : Operand} {t : Ty} {d : D} {r : Nat} {π : Option Path} {ty : Nat} (h : ev T ty F p = some (.pt t d r π)) : ∃ s, p = .tmp s ∧ F s = some (.pt t d r π) := by
  cases p with
  | tmp s => exact ⟨s, rfl, h⟩
  | const v => simp only [ev, Option.map_eq_some_iff] at h; obtain ⟨_, _, h⟩ := h; cases h
  | func f => cases h
  | global g => cases h

theorem ev_pk {p : Operand} {t : Ty} {d : D} {r : Nat} {π : Option Path} {ty : Nat} (h : ev T ty F p = some (.pk t d r π)) : ∃ s, p = .tmp s ∧ F s = some (.pk t d r π) := by
  cases p with
  | tmp s => exact ⟨s, rfl, h⟩
  | const v => simp only [ev, Option.map_eq_some_iff] at h; obtain ⟨_, _, h⟩ := h; cases h
  | func f => cases h
  | global g => cases h

theorem fieldAddrE_ok {s f : Nat} {p : Operand} (hT : TOk P T) (R : Rel C F ow a w) (ho : o.op = .fieldAddr s p f) (h : fieldAddrE T s p f F = some (F1, e, vc)) (hv : vc) : OpOk P C o a w F1 e := by
  unfold fieldAddrE at h
  split at h
  · rename_i fs τs hs
    split at h
    · rename_i off tf hf
      rw [Option.bind_eq_some_iff] at h
      obtain ⟨e0, he, h⟩ := h
      have ex : ∀ {τ : Ty} {g q : Nat}, fitsPl T tf τ = true → 0 < τ.size → a.eval p = .pointer (some ⟨g, q, none⟩) → (execOp a.eval o).run P w = .ok (.value (.pointer (some ⟨g, q + off, none⟩))) w := by
        intro τ g q h1 h2 h3
        simp [execOp, ho, h3, field_run hT hs hf h1 h2]
      split at h
      · rename_i τ d
        split at h
        · rename_i q
          rw [Option.bind_eq_some_iff] at h
          obtain ⟨⟨π, off', τ', d'⟩, hst, h⟩ := h
          replace h := bind_guard h; obtain ⟨hk, h⟩ := h
          simp only [Bool.and_eq_true, decide_eq_true_eq] at hk
          obtain ⟨⟨h1, h2⟩, h3⟩ := hk
          obtain rfl := Nat.eq_of_beq_eq_true h1
          simp only [Option.some.injEq, Prod.mk.injEq] at h
          obtain ⟨rfl, rfl, _⟩ := h
          obtain ⟨g, cs, hp, hg, hn, hl, hlie⟩ := val_bx R he
          obtain ⟨pre, cs', post, rfl, k1, k2, k3, k4⟩ := fieldStep_look _ _ _ _ _ _ _ _ _ hst hl
          refine ⟨_, w, ex h3 h2 hp, ow, R, ⟨g, 0 + off', cs', rfl, hg, k2, k3, ?_, fun σ hσ => ?_⟩, fun r hr => by cases hr; exact R.lt q _ he⟩
          · have := lies_mid hlie; rw [k1] at this; rw [Nat.zero_add]; exact this
          · cases hσ
            exact ⟨_, hp, by have := k4 (fun b => ow b = some q) g 0; rw [k1] at this; rw [Nat.zero_add]; exact this⟩
        · cases h
      · rename_i τ d
        rw [Option.bind_eq_some_iff] at h
        obtain ⟨⟨π, off', τ', d'⟩, hst, h⟩ := h
        replace h := bind_guard h; obtain ⟨hk, h⟩ := h
        simp only [Bool.and_eq_true, decide_eq_true_eq] at hk
        obtain ⟨⟨h1, h2⟩, h3⟩ := hk
        obtain rfl := Nat.eq_of_beq_eq_true h1
        simp only [res, Option.some.injEq, Prod.mk.injEq] at h
        obtain ⟨rfl, rfl, _⟩ := h
        have hview : view T 0 F p = some (.bx false τ, d) := by unfold view; rw [he]
        obtain ⟨cs, hp, aa, cells, rfl, hss, hS, hn, hr, hl⟩ := view_look R hview
        obtain ⟨g, q, sp⟩ := aa
        simp only at hss; subst hss
        obtain ⟨pre, cs', post, rfl, k1, k2, k3⟩ := fieldStep_rd _ _ _ _ _ _ _ _ _ hst hr
        simp only [Nat.zero_add] at k1
        exact ⟨_, w, ex (fitsPl_of _ h3) h2 hp, Left.of_rd R rfl (cs := [.pointer (some ⟨g, q + off', none⟩)]) rfl ⟨_, cs', rfl, rfl, hS, k2, k3, by rw [← k1]; exact lies_mid hl⟩⟩
      · rename_i τ d r π0
        rw [Option.bind_eq_some_iff] at h
        obtain ⟨⟨π, off', τ', d'⟩, hst, h⟩ := h
        replace h := bind_guard h; obtain ⟨hk, h⟩ := h
        simp only [Bool.and_eq_true, decide_eq_true_eq] at hk
        obtain ⟨⟨h1, h2⟩, h3⟩ := hk
        obtain rfl := Nat.eq_of_beq_eq_true h1
        simp only [Option.some.injEq, Prod.mk.injEq] at h
        obtain ⟨rfl, rfl, _⟩ := h
        obtain ⟨s, rfl, hF⟩ := ev_pt he
        obtain ⟨g, q, cs, hp, hg, hn, hl, hlie, hpl⟩ := R.ents s _ hF
        obtain ⟨pre, cs', post, rfl, k1, k2, k3, k4⟩ := fieldStep_look _ _ _ _ _ _ _ _ _ hst hl
        simp only [Nat.zero_add] at k1
        refine ⟨_, w, ex h3 h2 hp, ow, R, ⟨g, q + off', cs', rfl, hg, k2, k3, by rw [← k1]; exact lies_mid hlie, fun σ hσ => ?_⟩, fun r' hr => by cases hr; exact R.root s _ _ hF rfl⟩
        cases π0 with
        | none => cases hσ
        | some π0 =>
          simp only [addPath, Option.map_some, Option.some.injEq] at hσ
          subst hσ
          exact placeL_append π (by rw [← k1]; exact k4 _ g q) π0 (hpl π0 rfl)
      · cases h
    · cases h
  · cases h

/-- A field of a struct that is no place of memory. -/
theorem part_run (hT : TOk P T) {tf : Nat} {τ : Ty} (hfit : fitsTy T tf τ = true) {pre cs post : List Value} (hn : cs.length = τ.size) : (part tf (pre ++ cs ++ post).toArray pre.length).run P w = .ok (mkV τ cs) w := by
  obtain ⟨i, hi, hs, d, hu, hd⟩ := fits_info hT hfit
  cases ha : τ.isAgg with
  | true =>
    rw [ha] at hd
    have h3 : mkV τ cs = .agg cs.toArray := by cases τ <;> simp_all [Ty.isAgg, mkV]
    simp [part, run_isAgg hu, hd, sizeOf, typeInfo, hi, hs, h3, ← hn]
  | false =>
    rw [ha] at hd
    have h1 := size_one hT hfit ha
    rw [h1] at hn
    obtain ⟨v, rfl⟩ := List.length_eq_one_iff.mp hn
    simp [part, run_isAgg hu, hd, mkV_one ha h1]

theorem fieldE_ok {s f : Nat} {x : Operand} (hT : TOk P T) (R : Rel C F ow a w) (ho : o.op = .field s x f) (h : fieldE T s x f F = some (F1, e, vc)) (hv : vc) : OpOk P C o a w F1 e := by
  unfold fieldE at h
  split at h
  · rename_i fs τs hs
    split at h
    · rename_i off tf hf
      rw [Option.bind_eq_some_iff] at h
      obtain ⟨e0, he, h⟩ := h
      have h1 := hT s
      rw [hs] at h1
      obtain ⟨_, gs, _, hu, _, _, _, _, hgs, _⟩ := h1
      rw [← hgs, List.getElem?_map] at hf
      cases hg : gs.toList[f]? with
      | none => rw [hg] at hf; cases hf
      | some fl =>
        rw [hg] at hf
        simp only [Option.map_some, Option.some.injEq, Prod.mk.injEq] at hf
        obtain ⟨rfl, rfl⟩ := hf
        have hg' : gs[f]? = some fl := by simpa using hg
        have ex : ∀ {τ : Ty} {pre cs post : List Value}, fitsTy T fl.type τ = true → cs.length = τ.size → pre.length = fl.offset → a.eval x = .agg (pre ++ cs ++ post).toArray → (execOp a.eval o).run P w = .ok (.value (mkV τ cs)) w := by
          intro τ pre cs post k1 k2 k3 k4
          have := part_run (P := P) (w := w) hT k1 (pre := pre) (post := post) k2
          rw [k3] at this
          simp only [execOp, ho, Sem.run_bind, k4, Instr.field, run_underlying hu, Result.andThen_ok, hg', asAgg, Sem.run_pure, this]
        split at h
        · rename_i τ d
          rw [Option.bind_eq_some_iff] at h
          obtain ⟨⟨π, off', τ', d'⟩, hst, h⟩ := h
          replace h := bind_guard h; obtain ⟨hk, h⟩ := h
          simp only [Bool.and_eq_true, Bool.not_eq_true'] at hk
          obtain ⟨⟨h1, h2⟩, h3⟩ := hk
          have h1 := Nat.eq_of_beq_eq_true h1
          simp only [res, Option.some.injEq, Prod.mk.injEq] at h
          obtain ⟨rfl, rfl, _⟩ := h
          have hview : view T 0 F x = some (τ, d) := by unfold view; rw [he]
          obtain ⟨cs, e1, hl⟩ := view_look R hview
          obtain ⟨pre, cs', post, rfl, k1, k2, k3, _⟩ := fieldStep_look _ _ _ _ _ _ _ _ _ hst hl
          have hag : mkV τ (pre ++ cs' ++ post) = .agg (pre ++ cs' ++ post).toArray := by
            cases τ <;> first | rfl | (cases f <;> simp [fieldStep] at hst)
          exact ⟨_, w, ex (pre := pre) (post := post) h3 k2 (by omega) (by rw [e1, hag]), Left.of_rd R h2 rfl (rd_look _ _ _ h2 k3)⟩
        · rename_i τ d r π0
          rw [Option.bind_eq_some_iff] at h
          obtain ⟨⟨π, off', τ', d'⟩, hst, h⟩ := h
          replace h := bind_guard h; obtain ⟨hk, h⟩ := h
          simp only [Bool.and_eq_true] at hk
          obtain ⟨h1, h3⟩ := hk
          have h1 := Nat.eq_of_beq_eq_true h1
          obtain ⟨s', rfl, hF⟩ := ev_pk he
          obtain ⟨cs, e1, hl, _⟩ := R.ents s' _ hF
          obtain ⟨pre, cs', post, rfl, k1, k2, k3, _⟩ := fieldStep_look _ _ _ _ _ _ _ _ _ hst hl
          have hag : mkV τ (pre ++ cs' ++ post) = .agg (pre ++ cs' ++ post).toArray := by
            cases τ <;> first | rfl | (cases f <;> simp [fieldStep] at hst)
          have hrun := ex (pre := pre) (post := post) h3 k2 (by omega) (by rw [eval_tmp, e1, hag])
          split at h
          · simp only [Option.some.injEq, Prod.mk.injEq] at h
            obtain ⟨rfl, rfl, _⟩ := h
            exact ⟨_, w, hrun, ow, R, ⟨cs', rfl, k3, fun σ hσ => by cases hσ⟩, fun r' hr => by cases hr; exact R.root s' _ _ hF rfl⟩
          · rename_i ho'
            simp only [res, Option.some.injEq, Prod.mk.injEq] at h
            obtain ⟨rfl, rfl, _⟩ := h
            exact ⟨_, w, hrun, Left.of_rd R ho' rfl (rd_look _ _ _ ho' k3)⟩
        · cases h
    · cases h
  · cases h

theorem indexAddrE_ok {t : Nat} {x ix : Operand} (hT : TOk P T) (R : Rel C F ow a w) (ho : o.op = .indexAddr t x ix) (h : indexAddrE T t x ix F = some (F1, e, vc)) (hv : vc) : OpOk P C o a w F1 e := by
  unfold indexAddrE at h
  split at h
  · rename_i e0 bytes et ht
    have h1 := hT t
    rw [ht] at h1
    obtain ⟨_, j, _, _, hu, _, hj, hjs, _⟩ := h1
    rw [Option.bind_eq_some_iff] at h
    obtain ⟨⟨q, di⟩, hix, h⟩ := h
    simp only at h
    split at h
    · rename_i k
      have hi := view_int R hix
      rw [Option.bind_eq_some_iff] at h
      obtain ⟨e1, he, h⟩ := h
      have ex : ∀ {b : Addr} {n cap : Nat}, a.eval x = .slice (some b) n cap → b.spot = none → 0 ≤ di.toI → di.toI < n →
          (execOp a.eval o).run P w = .ok (.value (.pointer (some ⟨b.block, b.off + di.toI.toNat * et.size, none⟩))) w := by
        intro b n cap k1 k2 k3 k4
        simp [execOp, ho, k1, hi, Instr.indexAt, asIntOf, run_underlying hu, k3, k4, sizeOf, typeInfo, hj, hjs, add_spot k2]
      split at h
      · rename_i τ d
        split at h
        · rename_i s
          replace h := bind_guard h; obtain ⟨hk, h⟩ := h
          have hsz := Nat.eq_of_beq_eq_true hk
          simp only [Option.some.injEq, Prod.mk.injEq] at h
          obtain ⟨rfl, rfl, rfl⟩ := h
          obtain ⟨cs, k1, k2⟩ := R.ents s _ he
          have hlt : di.toI.toNat < d.toL.length := by omega
          rcases k2 with ⟨_, k3, _⟩ | ⟨g, q, cap, c, te, rfl, _, hO, hc, hb, hl, f, hr⟩
          · rw [k3] at hlt; cases hlt
          · obtain ⟨cells, hn, hrep, hlie⟩ := hr _ _ (List.getElem?_eq_getElem hlt)
            have hgd : d.toL.getD di.toI.toNat .u = d.toL[di.toI.toNat] := by simp [List.getD, hlt]
            refine ⟨_, w, ex k1 rfl hv.1 hv.2, ow, R, ⟨g, q + di.toI.toNat * et.size, cells, rfl, hO, hn, by rw [hgd]; exact rep_look _ _ _ _ _ (fun b hb => hb.1.1) hrep, by rw [← hsz]; exact hlie, fun σ hσ => ?_⟩, fun r hr => by cases hr; exact R.lt s _ he⟩
            cases hσ
            exact ⟨_, _, _, k1, rfl, by rw [hsz]⟩
        · cases h
      · rename_i τ d
        replace h := bind_guard h; obtain ⟨hk, h⟩ := h
        have hsz := Nat.eq_of_beq_eq_true hk
        simp only [resIf, Option.some.injEq, Prod.mk.injEq] at h
        obtain ⟨rfl, rfl, rfl⟩ := h
        have hview : view T t F x = some (.sl false τ, d) := by unfold view; rw [he]
        obtain ⟨cs, k1, A, cap, rfl, _, _, _, hr⟩ := view_look R hview
        have hlt : di.toI.toNat < d.toL.length := by omega
        obtain ⟨b, cells, rfl, hsp, hS, hn, hrd, hlie⟩ := hr _ _ (List.getElem?_eq_getElem hlt)
        have hgd : d.toL.getD di.toI.toNat .u = d.toL[di.toI.toNat] := by simp [List.getD, hlt]
        exact ⟨_, w, ex k1 hsp hv.1 hv.2, Left.of_rd R rfl (cs := [.pointer (some ⟨b.block, b.off + di.toI.toNat * et.size, none⟩)]) rfl
          ⟨_, cells, rfl, rfl, hS, hn, by rw [hgd]; exact hrd, by rw [← hsz]; exact hlie⟩⟩
      · rename_i τ d r π
        replace h := bind_guard h; obtain ⟨hk, h⟩ := h
        have hsz := Nat.eq_of_beq_eq_true hk
        simp only [Option.some.injEq, Prod.mk.injEq] at h
        obtain ⟨rfl, rfl, rfl⟩ := h
        obtain ⟨s, rfl, hF⟩ := ev_pk he
        obtain ⟨cs, k1, ⟨A, cap, rfl, _, _, _, hr⟩, hpl⟩ := R.ents s _ hF
        have hlt : di.toI.toNat < d.toL.length := by omega
        obtain ⟨b, cells, rfl, hsp, hS, hn, hlk, hlie⟩ := hr _ _ (List.getElem?_eq_getElem hlt)
        have hgd : d.toL.getD di.toI.toNat .u = d.toL[di.toI.toNat] := by simp [List.getD, hlt]
        refine ⟨_, w, ex k1 hsp hv.1 hv.2, ow, R, ⟨b.block, b.off + di.toI.toNat * et.size, cells, rfl, hS, hn, by rw [hgd]; exact hlk, by rw [← hsz]; exact hlie, fun σ hσ => ?_⟩, fun r' hr => by cases hr; exact R.root s _ _ hF rfl⟩
        cases π with
        | none => cases hσ
        | some π =>
          simp only [addPath, Option.map_some, Option.some.injEq] at hσ
          subst hσ
          have h2 := hpl π rfl
          by_cases hπ : π = []
          · subst hπ
            exact ⟨_, _, _, (h2.1 rfl).symm.trans k1, rfl, by rw [hsz]⟩
          · obtain ⟨g, q, hp, hg, hl⟩ := h2.2 hπ
            exact placeL_append (w := w) (X := fun b => ow b = some r) (g1 := g) (q1 := q) [.idx di.toI.toNat τ.size] ⟨b, _, _, hg, hl 0 _ rfl, rfl, by rw [hsz]⟩ π hp
      · cases h
    · cases h
  · cases h

end
end Go.Pi
