/- A slice is taken out of a place of a box, and leaves a hole. -/
import Derived.Test.YtkcgbkijlnpoiaaPiStore
namespace Go.Pi

section
variable {P : Program} {C : Ctx} {T : Nat → TI} {A : Ann} {F F1 : Fr} {ow : Nat → Option Nat} {a : Act} {w w' : World} {e : Ent} {vc : Prop} {o : Oper}

/-- What lies at a place inside of a value. -/
theorem get_flat {S : Nat → Prop} {g' q' : Nat} {t : Ty} {X : Nat → Prop} : ∀ (σ : Path) (τ : Ty) (d : D) (cells : List Value) (g q : Nat) (O : Nat → Prop), flatPath σ = true → τ.at σ = some t → cells.length = τ.size → rep w S τ O d cells → goL w X g' q' g q σ →
    ∃ δ, g' = g ∧ q' = q + δ ∧ δ + t.size ≤ τ.size ∧ rep w S t O (d.get σ) ((cells.drop δ).take t.size)
  | [], τ, d, cells, g, q, O, _, ht, hn, hr, hg => by
    simp only [Ty.at, Option.some.injEq] at ht
    subst ht
    obtain ⟨rfl, rfl⟩ := hg
    refine ⟨0, rfl, rfl, by omega, ?_⟩
    rw [List.drop_zero, ← hn, List.take_length]
    exact hr
  | .fst :: σ, τ, d, cells, g, q, O, hf, ht, hn, hr, hg => by
    cases τ <;> simp only [Ty.at, reduceCtorEq] at ht
    rename_i a b
    obtain ⟨c1, c2, f, rfl, hn1, h1, h2⟩ := hr
    obtain ⟨δ, k1, k2, k3, k4⟩ := get_flat σ a d.fst c1 g q _ hf ht hn1 h1 hg
    refine ⟨δ, k1, k2, by simp only [Ty.size]; omega, ?_⟩
    rw [List.drop_append_of_le_length (by omega), List.take_append_of_le_length (by simp; omega)]
    exact rep_mono (fun b hb => ⟨hb, rfl⟩) _ _ _ _ _ (fun b hb => ⟨hb.1, rfl⟩) k4
  | .snd z :: σ, τ, d, cells, g, q, O, hf, ht, hn, hr, hg => by
    cases τ <;> simp only [Ty.at, reduceCtorEq] at ht
    rename_i a b
    cases hz : Nat.beq a.size z with
    | false => rw [hz] at ht; simp at ht
    | true =>
      rw [hz] at ht
      simp only [cond_true] at ht
      have hz := Nat.eq_of_beq_eq_true hz
      subst hz
      obtain ⟨c1, c2, f, rfl, hn1, h1, h2⟩ := hr
      have hn2 : c2.length = b.size := by simp only [List.length_append, Ty.size] at hn; omega
      obtain ⟨δ, k1, k2, k3, k4⟩ := get_flat σ b d.snd c2 g (q + a.size) _ hf ht hn2 h2 hg
      refine ⟨a.size + δ, k1, by omega, by simp only [Ty.size]; omega, ?_⟩
      rw [← hn1, ← List.drop_drop, List.drop_left]
      exact rep_mono (fun b hb => ⟨hb, rfl⟩) _ _ _ _ _ (fun b hb => ⟨hb.1, rfl⟩) k4
  | .idx _ _ :: _, _, _, _, _, _, _, hf, _, _, _, _ => by cases hf
  | .deref :: _, _, _, _, _, _, _, hf, _, _, _, _ => by cases hf

theorem lies_part {g q δ n : Nat} {cells : List Value} (h : lies w g q cells) : lies w g (q + δ) ((cells.drop δ).take n) := by
  intro j v hv
  rw [List.getElem?_take] at hv
  split at hv
  · rw [List.getElem?_drop] at hv
    have := h _ v hv
    rw [Nat.add_assoc]
    exact this
  · cases hv

/-- A slice in a value: what it owns, and what is left. -/
theorem steal_flat {S : Nat → Prop} {g' q' : Nat} {t : Ty} {X : Nat → Prop} (hz : t.size = 1) : ∀ (σ : Path) (τ : Ty) (d : D) (cells : List Value) (g q : Nat) (O : Nat → Prop), flatPath σ = true → τ.at σ = some t → cells.length = τ.size → rep w S τ O d cells → goL w X g' q' g q σ →
    ∃ δ, ∃ f : Nat → Bool, g' = g ∧ q' = q + δ ∧ δ + t.size ≤ τ.size ∧ rep w S t (fun b => O b ∧ f b = true) (d.get σ) ((cells.drop δ).take t.size) ∧ rep w S (τ.set σ .hole) (fun b => O b ∧ f b = false) (d.upd σ .u) cells
  | [], τ, d, cells, g, q, O, _, ht, hn, hr, hg => by
    simp only [Ty.at, Option.some.injEq] at ht
    subst ht
    obtain ⟨rfl, rfl⟩ := hg
    refine ⟨0, fun _ => true, rfl, rfl, by omega, ?_, ?_⟩
    · rw [List.drop_zero, ← hn, List.take_length]
      exact rep_mono (fun b hb => ⟨hb, rfl⟩) _ _ _ _ _ (fun b hb => ⟨⟨hb, rfl⟩, rfl⟩) hr
    · rw [set_nil]
      show cells.length = 1
      omega
  | .fst :: σ, τ, d, cells, g, q, O, hf, ht, hn, hr, hg => by
    cases τ <;> simp only [Ty.at, reduceCtorEq] at ht
    rename_i a b
    obtain ⟨c1, c2, f, rfl, hn1, h1, h2⟩ := hr
    obtain ⟨δ, f', k1, k2, k3, k4, k5⟩ := steal_flat hz σ a d.fst c1 g q _ hf ht hn1 h1 hg
    refine ⟨δ, fun b => f b && f' b, k1, k2, by simp only [Ty.size]; omega, ?_, c1, c2, f, rfl, ?_, ?_, ?_⟩
    · rw [List.drop_append_of_le_length (by omega), List.take_append_of_le_length (by simp; omega)]
      exact rep_mono (fun b hb => ⟨hb, rfl⟩) _ _ _ _ _ (fun b hb => ⟨⟨hb.1.1, by simp [hb.1.2, hb.2]⟩, rfl⟩) k4
    · rw [size_set (t' := .hole) hz.symm σ a ht]; exact hn1
    · exact rep_mono (fun b hb => ⟨hb, rfl⟩) _ _ _ _ _ (fun b hb => ⟨⟨⟨hb.1.1, by simp [hb.2]⟩, hb.1.2⟩, rfl⟩) k5
    · exact rep_mono (fun b hb => ⟨hb, rfl⟩) _ _ _ _ _ (fun b hb => ⟨⟨⟨hb.1, by simp [hb.2]⟩, hb.2⟩, rfl⟩) h2
  | .snd z :: σ, τ, d, cells, g, q, O, hf, ht, hn, hr, hg => by
    cases τ <;> simp only [Ty.at, reduceCtorEq] at ht
    rename_i a b
    cases hz' : Nat.beq a.size z with
    | false => rw [hz'] at ht; simp at ht
    | true =>
      rw [hz'] at ht
      simp only [cond_true] at ht
      have hz' := Nat.eq_of_beq_eq_true hz'
      subst hz'
      obtain ⟨c1, c2, f, rfl, hn1, h1, h2⟩ := hr
      have hn2 : c2.length = b.size := by simp only [List.length_append, Ty.size] at hn; omega
      obtain ⟨δ, f', k1, k2, k3, k4, k5⟩ := steal_flat hz σ b d.snd c2 g (q + a.size) _ hf ht hn2 h2 hg
      refine ⟨a.size + δ, fun b => !f b && f' b, k1, by omega, by simp only [Ty.size]; omega, ?_, c1, c2, f, rfl, hn1, ?_, ?_⟩
      · rw [← hn1, ← List.drop_drop, List.drop_left]
        exact rep_mono (fun b hb => ⟨hb, rfl⟩) _ _ _ _ _ (fun b hb => ⟨⟨hb.1.1, by simp [hb.1.2, hb.2]⟩, rfl⟩) k4
      · exact rep_mono (fun b hb => ⟨hb, rfl⟩) _ _ _ _ _ (fun b hb => ⟨⟨⟨hb.1, by simp [hb.2]⟩, hb.2⟩, rfl⟩) h1
      · exact rep_mono (fun b hb => ⟨hb, rfl⟩) _ _ _ _ _ (fun b hb => ⟨⟨⟨hb.1.1, by simp [hb.2]⟩, hb.1.2⟩, rfl⟩) k5
  | .idx _ _ :: _, _, _, _, _, _, _, hf, _, _, _, _ => by cases hf
  | .deref :: _, _, _, _, _, _, _, hf, _, _, _, _ => by cases hf

theorem retype_some {F : Fr} {r : Nat} {τ : Ty} {d : D} {q : Nat} {e : Ent} (h : F.retype r τ d q = some e) :
    (q = r ∧ e = .val τ d) ∨ (q ≠ r ∧ F q = some e ∧ e.root ≠ some r) ∨ (q ≠ r ∧ ∃ t0 d0, F q = some (.pk t0 d0 r (some [])) ∧ e = .pk τ d r (some [])) ∨
    (q ≠ r ∧ ∃ t0 d0 σ t, F q = some (.pt t0 d0 r (some σ)) ∧ stealPath σ = true ∧ τ.at σ = some t ∧ e = .pt t (d.get σ) r (some σ)) := by
  unfold Fr.retype at h
  cases hq : Nat.beq q r with
  | true =>
    rw [hq] at h
    simp only [cond_true, Option.some.injEq] at h
    exact .inl ⟨Nat.eq_of_beq_eq_true hq, h.symm⟩
  | false =>
    have hne : q ≠ r := by rintro rfl; rw [Nat.beq_refl] at hq; cases hq
    rw [hq] at h
    simp only [cond_false] at h
    right
    cases hF : F q with
    | none => rw [hF] at h; cases h
    | some e0 =>
      rw [hF] at h
      simp only at h
      cases hr : e0.root with
      | none =>
        rw [hr] at h
        simp only [Option.some.injEq] at h
        subst h
        exact .inl ⟨hne, rfl, by rw [hr]; simp⟩
      | some r' =>
        rw [hr] at h
        simp only at h
        cases hb : Nat.beq r' r with
        | false =>
          rw [hb] at h
          simp only [cond_false, Option.some.injEq] at h
          subst h
          refine .inl ⟨hne, rfl, ?_⟩
          rw [hr]
          intro h
          cases h
          rw [Nat.beq_refl] at hb
          cases hb
        | true =>
          have hb := Nat.eq_of_beq_eq_true hb
          subst hb
          rw [Nat.beq_refl] at h
          simp only [cond_true] at h
          right
          split at h
          · simp only [Ent.root, Option.some.injEq] at hr
            subst hr
            simp only [Option.some.injEq] at h
            exact .inl ⟨hne, _, _, rfl, h.symm⟩
          · simp only [Ent.root, Option.some.injEq] at hr
            subst hr
            split at h
            · simp only [Option.some.injEq] at h
              rename_i h1 h2
              exact .inr ⟨hne, _, _, _, _, rfl, h1, h2, h.symm⟩
            · cases h
          · cases h

theorem stealE_ok {t : Nat} {p : Operand} (hT : TOk P T) (R : Rel C F ow a w) (ho : o.op = .load t p) (h : stealE T t p F = some (F1, e, vc)) : OpOk P C o a w F1 e := by
  unfold stealE at h
  rw [Option.bind_eq_some_iff] at h
  obtain ⟨⟨r, π⟩, hpl, h⟩ := h
  simp only at h
  split at h
  · rename_i τr dr hFr
    split at h
    · rename_i e0 hat
      replace h := bind_guard h; obtain ⟨hk, h⟩ := h
      simp only [Bool.and_eq_true] at hk
      obtain ⟨hsp, hfit⟩ := hk
      simp only [Option.some.injEq, Prod.mk.injEq] at h
      obtain ⟨rfl, rfl, _⟩ := h
      obtain ⟨g, q, hp, hplace⟩ := ptPlace_ok R hpl
      obtain ⟨csr, hcr, hrr⟩ := R.ents r _ hFr
      have hrn := R.lt r _ hFr
      cases π with
      | nil => cases hsp
      | cons s σ =>
        cases s with
        | fst => cases hsp
        | snd z => cases hsp
        | idx i z => cases hsp
        | deref =>
          have hf : flatPath σ = true := hsp
          cases τr with
          | bx ob eb =>
            cases ob with
            | false => cases hat
            | true =>
              simp only [Ty.at] at hat
              obtain ⟨g0, c, te, cells, rfl, hOg, hc, hz, hn, hrep, hl⟩ := hrr
              obtain ⟨b, hb, hgo⟩ := hplace
              have hb' : b = ⟨g0, 0, none⟩ := by
                rw [hcr] at hb
                simp only [mkV, List.headD_cons, Value.pointer.injEq, Option.some.injEq] at hb
                exact hb.symm
              subst hb'
              obtain ⟨δ, f, rfl, hq, hδ, h1, h2⟩ := steal_flat (t := .sl true e0) rfl σ eb dr cells _ _ _ hf hat hn hrep hgo
              have hrun : (execOp a.eval o).run P w = .ok (.value (mkV (.sl true e0) ((cells.drop δ).take 1))) w := by
                simp only [Nat.zero_add] at hq
                subst hq
                have hlie : lies w g q ((cells.drop q).take 1) := by
                  have := lies_part (δ := q) (n := 1) hl
                  rwa [Nat.zero_add] at this
                have hlen1 : ((cells.drop q).take 1).length = 1 := by
                  have : q + 1 ≤ eb.size := hδ
                  simp
                  omega
                simp [execOp, ho, hp, load_run (τ := .sl true e0) hT hfit hlen1 hlie]
              have hz1 : (eb.set σ .hole).size = eb.size := size_set (t := .sl true e0) (t' := .hole) rfl σ eb hat
              classical
              let ow' : Nat → Option Nat := fun b => if (ow b = some r ∧ b ≠ g) ∧ f b = true then some C.n else ow b
              have w_none : ∀ b, ow b = none → ow' b = none := fun b hb => by
                show (if _ then _ else _) = none
                rw [if_neg (by rw [hb]; simp)]; exact hb
              have w_other : ∀ b s, ow b = some s → s ≠ r → ow' b = some s := fun b s hb hs => by
                show (if _ then _ else _) = some s
                rw [if_neg (by rw [hb]; simp [hs])]; exact hb
              have w_keep : ∀ b, ow b = some r → (b ≠ g → f b = false) → ow' b = some r := fun b hb hs => by
                show (if _ then _ else _) = some r
                rw [if_neg (fun h => by have := hs h.1.2; rw [h.2] at this; cases this)]; exact hb
              have w_take : ∀ b, (ow b = some r ∧ b ≠ g) ∧ f b = true → ow' b = some C.n := fun b hb => if_pos hb
              have w_some : ∀ b s, ow' b = some s → (s = C.n ∧ ow b = some r) ∨ ow b = some s := fun b s hb => by
                have hb : (if (ow b = some r ∧ b ≠ g) ∧ f b = true then some C.n else ow b) = some s := hb
                split at hb
                · rename_i hh
                  simp only [Option.some.injEq] at hb
                  exact .inl ⟨hb.symm, hh.1.1⟩
                · exact .inr hb
              have hst : ∀ b, Stb C ow w b → Stb C ow' w b := fun b hb => ⟨hb.1, hb.2.1, w_none b hb.2.2⟩
              have hg' : ow' g = some r := w_keep g hOg (fun h => absurd rfl h)
              have hroot : rep w (Stb C ow' w) (eb.set σ .hole) (fun b => ow' b = some r ∧ b ≠ g) (dr.upd σ .u) cells :=
                rep_mono (fun b hb => ⟨hst b hb, rfl⟩) _ _ _ _ _ (fun b hb => ⟨⟨w_keep b hb.1.1 (fun _ => hb.2), hb.1.2⟩, rfl⟩) h2
              have hrootT : rep w (Stb C ow' w) (.bx true (eb.set σ .hole)) (fun b => ow' b = some r) (dr.upd σ .u) [.pointer (some ⟨g, 0, none⟩)] :=
                ⟨g, c, te, cells, rfl, hg', hc, by rw [hz1]; exact hz, by rw [hz1]; exact hn, hroot, hl⟩
              refine ⟨_, w, hrun, ow', ?_, ⟨_, rfl, rep_mono (fun b hb => ⟨hst b hb, rfl⟩) _ _ _ _ _ (fun b hb => ⟨w_take b hb, rfl⟩) h1⟩, fun r' hr' => by cases hr'⟩
              have entR : ∀ s e', F s = some e' → s ≠ r → e'.root ≠ some r → EntOk w (Stb C ow' w) ow' (tmOf a) (tmOf a s) s e' := fun s e' hF hs hroot' =>
                EntOk.mono (fun b hb => ⟨hst b hb, rfl⟩) (fun _ _ _ b hb => ⟨w_other b s hb hs, rfl⟩) (fun r' hr' => ⟨rfl, fun b hb => ⟨w_other b r' hb (fun e => hroot' (by rw [hr', e])), rfl⟩⟩) (R.ents s e' hF)
              refine { R with ents := ?_, root := ?_, lt := ?_, own := ?_ }
              · intro s e' hs
                rcases retype_some hs with ⟨rfl, rfl⟩ | ⟨h3, h4, h5⟩ | ⟨h3, t0, d0, h4, rfl⟩ | ⟨h3, t0, d0, σ', t', h4, h5, h6, rfl⟩
                · exact ⟨_, hcr, hrootT⟩
                · exact entR s e' h4 h3 h5
                · obtain ⟨cs, k1, _, k3⟩ := R.ents s _ h4
                  refine ⟨[.pointer (some ⟨g, 0, none⟩)], ?_, rep_look _ _ _ _ _ (fun b hb => hb) hrootT, fun σ' hσ' => ⟨fun _ => (k3 [] rfl).1 rfl, fun hne => ?_⟩⟩
                  · rw [(k3 [] rfl).1 rfl, hcr]; rfl
                  · cases hσ'; exact absurd rfl hne
                · obtain ⟨g1, q1, cs, k1, k2, _, _, _, k6⟩ := R.ents s _ h4
                  have hp1 := k6 σ' rfl
                  have hroot3 := R.root s _ r h4 rfl
                  cases σ' with
                  | nil => cases h5
                  | cons s' σ1 =>
                    cases s' with
                    | fst => cases h5
                    | snd z => cases h5
                    | idx i z => cases h5
                    | deref =>
                      have hf1 : flatPath σ1 = true := h5
                      have h6 : (eb.set σ .hole).at σ1 = some t' := h6
                      obtain ⟨b, hb, hgo1⟩ := hp1
                      have hb' : b = ⟨g, 0, none⟩ := by
                        rw [hcr] at hb
                        simp only [mkV, List.headD_cons, Value.pointer.injEq, Option.some.injEq] at hb
                        exact hb.symm
                      subst hb'
                      obtain ⟨δ1, rfl, hq1, hδ1, hr1⟩ := get_flat σ1 _ _ cells _ _ _ hf1 h6 (by rw [hz1]; exact hn) hroot hgo1
                      simp only [Nat.zero_add] at hq1
                      subst hq1
                      refine ⟨g1, q1, (cells.drop q1).take t'.size, k1, hg', ?_, rep_look _ _ _ _ _ (fun b hb => hb.1) hr1, ?_, fun σ2 hσ2 => ?_⟩
                      · rw [hz1, ← hn] at hδ1
                        simp
                        omega
                      · have := lies_part (δ := q1) (n := t'.size) hl
                        rwa [Nat.zero_add] at this
                      · cases hσ2
                        refine ⟨_, hb, ?_⟩
                        have gen : ∀ (π : Path) (X Y : Nat → Prop) (x y : Nat), flatPath π = true → goL w X g1 q1 x y π → goL w Y g1 q1 x y π := by
                          intro π
                          induction π with
                          | nil => exact fun _ _ _ _ _ h => h
                          | cons s π ih =>
                            intro X Y x y hfl h
                            cases s with
                            | fst => exact ih _ _ _ _ hfl h
                            | snd z => exact ih _ _ _ _ hfl h
                            | idx i z => cases hfl
                            | deref => cases hfl
                        exact gen σ1 _ _ _ _ hf1 hgo1
              · intro s e' r' hs hr'
                rcases retype_some hs with ⟨rfl, rfl⟩ | ⟨_, h4, _⟩ | ⟨_, t0, d0, h4, rfl⟩ | ⟨_, t0, d0, σ', t', h4, _, _, rfl⟩
                · cases hr'
                · exact R.root s e' r' h4 hr'
                · cases hr'; exact hrn
                · cases hr'; exact hrn
              · intro s e' hs
                rcases retype_some hs with ⟨rfl, rfl⟩ | ⟨_, h4, _⟩ | ⟨_, t0, d0, h4, rfl⟩ | ⟨_, t0, d0, σ', t', h4, _, _, rfl⟩
                · exact hrn
                · exact R.lt s e' h4
                · exact R.lt s _ h4
                · exact R.lt s _ h4
              · intro b s hb
                rcases w_some b s hb with ⟨rfl, hb'⟩ | hb'
                · obtain ⟨l1, l2⟩ := R.own b r hb'
                  refine ⟨l1, .inr ?_⟩
                  rcases l2 with l2 | l2
                  · exact .inl (R.givtk _ _ l2.2)
                  · exact l2
                · exact R.own b s hb'
          | _ => cases hat
    · cases h
  · cases h

theorem at_set {t t' : Ty} : ∀ (σ : Path) (τ : Ty), flatPath σ = true → τ.at σ = some t → (τ.set σ t').at σ = some t'
  | [], τ, _, ht => by rw [set_nil]; cases t' <;> rfl
  | .fst :: σ, τ, hf, ht => by
    cases τ <;> simp only [Ty.at, reduceCtorEq] at ht
    exact at_set σ _ hf ht
  | .snd z :: σ, τ, hf, ht => by
    cases τ <;> simp only [Ty.at, reduceCtorEq] at ht
    rename_i a b
    cases hz : Nat.beq a.size z with
    | false => rw [hz] at ht; simp at ht
    | true =>
      rw [hz] at ht
      simp only [cond_true] at ht
      have := at_set (t' := t') σ _ hf ht
      simp only [Ty.set, Ty.at, hz, cond_true, this]
  | .idx _ _ :: _, _, hf, _ => by cases hf
  | .deref :: _, _, hf, _ => by cases hf

theorem set_set {t t' t'' : Ty} : ∀ (σ : Path) (τ : Ty), flatPath σ = true → τ.at σ = some t → (τ.set σ t').set σ t'' = τ.set σ t''
  | [], τ, _, ht => by rw [set_nil]; simp only [set_nil]
  | .fst :: σ, τ, hf, ht => by
    cases τ <;> simp only [Ty.at, reduceCtorEq] at ht
    simp only [Ty.set, set_set σ _ hf ht]
  | .snd z :: σ, τ, hf, ht => by
    cases τ <;> simp only [Ty.at, reduceCtorEq] at ht
    rename_i a b
    cases hz : Nat.beq a.size z with
    | false => rw [hz] at ht; simp at ht
    | true =>
      rw [hz] at ht
      simp only [cond_true] at ht
      simp only [Ty.set, set_set σ _ hf ht]
  | .idx _ _ :: _, _, hf, _ => by cases hf
  | .deref :: _, _, hf, _ => by cases hf

theorem frzLoadE_ok {t : Nat} {p : Operand} (hT : TOk P T) (R : Rel C F ow a w) (ho : o.op = .load t p) (h : frzLoadE T t p F = some (F1, e, vc)) : OpOk P C o a w F1 e := by
  unfold frzLoadE at h
  rw [Option.bind_eq_some_iff] at h
  obtain ⟨⟨r, π⟩, hpl, h⟩ := h
  simp only at h
  split at h
  · rename_i τr dr hFr
    split at h
    · rename_i e0 hat
      replace h := bind_guard h; obtain ⟨hk, h⟩ := h
      simp only [Bool.and_eq_true] at hk
      obtain ⟨hsp, hfit⟩ := hk
      simp only [Option.some.injEq, Prod.mk.injEq] at h
      obtain ⟨rfl, rfl, _⟩ := h
      obtain ⟨g, q, hp, hplace⟩ := ptPlace_ok R hpl
      obtain ⟨csr, hcr, hrr⟩ := R.ents r _ hFr
      have hrn := R.lt r _ hFr
      cases π with
      | nil => cases hsp
      | cons s σ =>
        cases s with
        | fst => cases hsp
        | snd z => cases hsp
        | idx i z => cases hsp
        | deref =>
          have hf : flatPath σ = true := hsp
          cases τr with
          | bx ob eb =>
            cases ob with
            | false => cases hat
            | true =>
              simp only [Ty.at] at hat
              obtain ⟨g0, c, te, cells, rfl, hOg, hc, hz, hn, hrep, hl⟩ := hrr
              obtain ⟨b, hb, hgo⟩ := hplace
              have hb' : b = ⟨g0, 0, none⟩ := by
                rw [hcr] at hb
                simp only [mkV, List.headD_cons, Value.pointer.injEq, Option.some.injEq] at hb
                exact hb.symm
              subst hb'
              obtain ⟨δ, f, rfl, hq, hδ, h1, h2⟩ := steal_flat (t := .sl true e0) rfl σ eb dr cells _ _ _ hf hat hn hrep hgo
              have hrun : (execOp a.eval o).run P w = .ok (.value (mkV (.sl true e0) ((cells.drop δ).take 1))) w := by
                simp only [Nat.zero_add] at hq
                subst hq
                have hlie : lies w g q ((cells.drop q).take 1) := by
                  have := lies_part (δ := q) (n := 1) hl
                  rwa [Nat.zero_add] at this
                have hlen1 : ((cells.drop q).take 1).length = 1 := by
                  have : q + 1 ≤ eb.size := hδ
                  simp
                  omega
                simp [execOp, ho, hp, load_run (τ := .sl true e0) hT hfit hlen1 hlie]
              have hz1 : (eb.set σ (.sl false e0.frz)).size = eb.size := size_set (t := .sl true e0) (t' := .sl false e0.frz) rfl σ eb hat
              have hpart : ((cells.drop δ).take 1).length = 1 := by
                have : δ + 1 ≤ eb.size := hδ
                simp
                omega
              classical
              let ow' : Nat → Option Nat := fun b => if (ow b = some r ∧ b ≠ g) ∧ f b = true then none else ow b
              have w_none : ∀ b, ow b = none → ow' b = none := fun b hb => by
                show (if _ then _ else _) = none
                rw [if_neg (by rw [hb]; simp)]; exact hb
              have w_other : ∀ b s, ow b = some s → s ≠ r → ow' b = some s := fun b s hb hs => by
                show (if _ then _ else _) = some s
                rw [if_neg (by rw [hb]; simp [hs])]; exact hb
              have w_keep : ∀ b, ow b = some r → (b ≠ g → f b = false) → ow' b = some r := fun b hb hs => by
                show (if _ then _ else _) = some r
                rw [if_neg (fun h => by have := hs h.1.2; rw [h.2] at this; cases this)]; exact hb
              have w_take : ∀ b, (ow b = some r ∧ b ≠ g) ∧ f b = true → ow' b = none := fun b hb => if_pos hb
              have w_some : ∀ b s, ow' b = some s → ow b = some s := fun b s hb => by
                have hb : (if (ow b = some r ∧ b ≠ g) ∧ f b = true then none else ow b) = some s := hb
                split at hb
                · cases hb
                · exact hb
              have hst2 : ∀ b, (ow b = some r ∧ b ≠ g) ∧ f b = true → Stb C ow' w b := fun b hb => by
                obtain ⟨l1, l2⟩ := R.own b r hb.1.1
                refine ⟨.inr ?_, l1, w_take b hb⟩
                rcases l2 with l2 | l2
                · exact .inl (R.givtk _ _ l2.2)
                · exact l2
              have hst : ∀ b, Stb C ow w b → Stb C ow' w b := fun b hb => ⟨hb.1, hb.2.1, w_none b hb.2.2⟩
              have hg' : ow' g = some r := w_keep g hOg (fun h => absurd rfl h)
              have hfz : ∀ O', rep w (Stb C ow' w) (.sl false e0.frz) O' (dr.get σ) ((cells.drop δ).take 1) := fun O' =>
                rep_frz (S := Stb C ow w) (O := fun b => (ow b = some r ∧ b ≠ g) ∧ f b = true) (t := .sl true e0) hst hst2 h1
              have hhole : rep w (Stb C ow' w) (eb.set σ .hole) (fun b => ow' b = some r ∧ b ≠ g) (dr.upd σ .u) cells :=
                rep_mono (fun b hb => ⟨hst b hb, rfl⟩) _ _ _ _ _ (fun b hb => ⟨⟨w_keep b hb.1.1 (fun _ => hb.2), hb.1.2⟩, rfl⟩) h2
              have hroot : rep w (Stb C ow' w) (eb.set σ (.sl false e0.frz)) (fun b => ow' b = some r ∧ b ≠ g) ((dr.upd σ .u).upd σ (dr.get σ)) cells := by
                obtain ⟨δ', _, e2, _, hu⟩ := upd_flat (w := w) (w' := w) (X := fun b => ow b = some r) (O2 := fun _ => False) (t := .hole) (t' := .sl false e0.frz) (fun b hb => ⟨hb, rfl⟩) (hfz _) hpart rfl σ (eb.set σ .hole) (dr.upd σ .u) cells _
                  (fun b => ow' b = some r ∧ b ≠ g) hf (at_set σ eb hf hat) (by rw [size_set (t := .sl true e0) (t' := .hole) rfl σ eb hat]; exact hn) hhole (fun b _ => ⟨rfl, fun h => h⟩) hgo
                have hd : δ' = δ := by omega
                subst hd
                rw [set_set σ eb hf hat] at hu
                have ecells : cells.take δ' ++ (cells.drop δ').take 1 ++ cells.drop (δ' + 1) = cells := by
                  rw [List.append_assoc, ← List.drop_drop, List.take_append_drop, List.take_append_drop]
                have hu : rep w (Stb C ow' w) (eb.set σ (.sl false e0.frz)) (fun b => (ow' b = some r ∧ b ≠ g) ∨ False) ((dr.upd σ .u).upd σ (dr.get σ)) (cells.take δ' ++ (cells.drop δ').take 1 ++ cells.drop (δ' + 1)) := hu
                rw [ecells] at hu
                exact rep_mono (fun b hb => ⟨hb, rfl⟩) _ _ _ _ _ (fun b hb => ⟨hb.resolve_right (fun h => h), rfl⟩) hu
              have hrootT : rep w (Stb C ow' w) (.bx true (eb.set σ (.sl false e0.frz))) (fun b => ow' b = some r) ((dr.upd σ .u).upd σ (dr.get σ)) [.pointer (some ⟨g, 0, none⟩)] :=
                ⟨g, c, te, cells, rfl, hg', hc, by rw [hz1]; exact hz, by rw [hz1]; exact hn, hroot, hl⟩
              refine ⟨_, w, hrun, ow', ?_, ⟨_, rfl, hfz _⟩, fun r' hr' => by cases hr'⟩
              have entR : ∀ s e', F s = some e' → s ≠ r → e'.root ≠ some r → EntOk w (Stb C ow' w) ow' (tmOf a) (tmOf a s) s e' := fun s e' hF hs hroot' =>
                EntOk.mono (fun b hb => ⟨hst b hb, rfl⟩) (fun _ _ _ b hb => ⟨w_other b s hb hs, rfl⟩) (fun r' hr' => ⟨rfl, fun b hb => ⟨w_other b r' hb (fun e => hroot' (by rw [hr', e])), rfl⟩⟩) (R.ents s e' hF)
              refine { R with ents := ?_, root := ?_, lt := ?_, own := ?_ }
              · intro s e' hs
                rcases retype_some hs with ⟨rfl, rfl⟩ | ⟨h3, h4, h5⟩ | ⟨h3, t0, d0, h4, rfl⟩ | ⟨h3, t0, d0, σ', t', h4, h5, h6, rfl⟩
                · exact ⟨_, hcr, hrootT⟩
                · exact entR s e' h4 h3 h5
                · obtain ⟨cs, k1, _, k3⟩ := R.ents s _ h4
                  refine ⟨[.pointer (some ⟨g, 0, none⟩)], ?_, rep_look _ _ _ _ _ (fun b hb => hb) hrootT, fun σ' hσ' => ⟨fun _ => (k3 [] rfl).1 rfl, fun hne => ?_⟩⟩
                  · rw [(k3 [] rfl).1 rfl, hcr]; rfl
                  · cases hσ'; exact absurd rfl hne
                · obtain ⟨g1, q1, cs, k1, k2, _, _, _, k6⟩ := R.ents s _ h4
                  have hp1 := k6 σ' rfl
                  have hroot3 := R.root s _ r h4 rfl
                  cases σ' with
                  | nil => cases h5
                  | cons s' σ1 =>
                    cases s' with
                    | fst => cases h5
                    | snd z => cases h5
                    | idx i z => cases h5
                    | deref =>
                      have hf1 : flatPath σ1 = true := h5
                      have h6 : (eb.set σ (.sl false e0.frz)).at σ1 = some t' := h6
                      obtain ⟨b, hb, hgo1⟩ := hp1
                      have hb' : b = ⟨g, 0, none⟩ := by
                        rw [hcr] at hb
                        simp only [mkV, List.headD_cons, Value.pointer.injEq, Option.some.injEq] at hb
                        exact hb.symm
                      subst hb'
                      obtain ⟨δ1, rfl, hq1, hδ1, hr1⟩ := get_flat σ1 _ _ cells _ _ _ hf1 h6 (by rw [hz1]; exact hn) hroot hgo1
                      simp only [Nat.zero_add] at hq1
                      subst hq1
                      refine ⟨g1, q1, (cells.drop q1).take t'.size, k1, hg', ?_, rep_look _ _ _ _ _ (fun b hb => hb.1) hr1, ?_, fun σ2 hσ2 => ?_⟩
                      · rw [hz1, ← hn] at hδ1
                        simp
                        omega
                      · have := lies_part (δ := q1) (n := t'.size) hl
                        rwa [Nat.zero_add] at this
                      · cases hσ2
                        refine ⟨_, hb, ?_⟩
                        have gen : ∀ (π : Path) (X Y : Nat → Prop) (x y : Nat), flatPath π = true → goL w X g1 q1 x y π → goL w Y g1 q1 x y π := by
                          intro π
                          induction π with
                          | nil => exact fun _ _ _ _ _ h => h
                          | cons s π ih =>
                            intro X Y x y hfl h
                            cases s with
                            | fst => exact ih _ _ _ _ hfl h
                            | snd z => exact ih _ _ _ _ hfl h
                            | idx i z => cases hfl
                            | deref => cases hfl
                        exact gen σ1 _ _ _ _ hf1 hgo1
              · intro s e' r' hs hr'
                rcases retype_some hs with ⟨rfl, rfl⟩ | ⟨_, h4, _⟩ | ⟨_, t0, d0, h4, rfl⟩ | ⟨_, t0, d0, σ', t', h4, _, _, rfl⟩
                · cases hr'
                · exact R.root s e' r' h4 hr'
                · cases hr'; exact hrn
                · cases hr'; exact hrn
              · intro s e' hs
                rcases retype_some hs with ⟨rfl, rfl⟩ | ⟨_, h4, _⟩ | ⟨_, t0, d0, h4, rfl⟩ | ⟨_, t0, d0, σ', t', h4, _, _, rfl⟩
                · exact hrn
                · exact R.lt s e' h4
                · exact R.lt s _ h4
                · exact R.lt s _ h4
              · exact fun b s hb => R.own b s (w_some b s hb)
          | _ => cases hat
    · cases h
  · cases h

end
end Go.Pi
