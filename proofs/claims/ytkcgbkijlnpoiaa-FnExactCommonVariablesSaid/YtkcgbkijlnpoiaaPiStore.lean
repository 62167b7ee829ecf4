/- Each operation does what the generator says: a store. -/
import Derived.Test.YtkcgbkijlnpoiaaPiApp
namespace Go.Pi

section
variable {P : Program} {C : Ctx} {T : Nat → TI} {A : Ann} {F F1 : Fr} {ow : Nat → Option Nat} {a : Act} {w w' : World} {e : Ent} {vc : Prop} {o : Oper}

/-- A part of a value is replaced. -/
theorem set_nil (τ x : Ty) : τ.set [] x = x := by cases τ <;> rfl

theorem size_set {t t' : Ty} (h : t'.size = t.size) : ∀ (σ : Path) (τ : Ty), τ.at σ = some t → (τ.set σ t').size = τ.size
  | [], τ, ht => by
    simp only [Ty.at, Option.some.injEq] at ht
    subst ht
    rw [set_nil]
    exact h
  | .fst :: σ, τ, ht => by
    cases τ <;> simp only [Ty.at, reduceCtorEq] at ht
    simp only [Ty.set, Ty.size, size_set h σ _ ht]
  | .snd z :: σ, τ, ht => by
    cases τ <;> simp only [Ty.at, reduceCtorEq] at ht
    rename_i a b
    cases hz : Nat.beq a.size z with
    | false => rw [hz] at ht; simp at ht
    | true =>
      rw [hz] at ht
      simp only [cond_true] at ht
      simp only [Ty.set, Ty.size, size_set h σ _ ht]
  | .idx _ _ :: _, τ, _ => by cases τ <;> rfl
  | .deref :: _, τ, _ => by cases τ <;> rfl

theorem set_same {t : Ty} : ∀ (σ : Path) (τ : Ty), flatPath σ = true → τ.at σ = some t → τ.set σ t = τ
  | [], τ, _, ht => by
    simp only [Ty.at, Option.some.injEq] at ht
    rw [set_nil]
    exact ht.symm
  | .fst :: σ, τ, hf, ht => by
    cases τ <;> simp only [Ty.at, reduceCtorEq] at ht
    simp only [Ty.set, set_same σ _ hf ht]
  | .snd z :: σ, τ, hf, ht => by
    cases τ <;> simp only [Ty.at, reduceCtorEq] at ht
    rename_i a b
    cases hz : Nat.beq a.size z with
    | false => rw [hz] at ht; simp at ht
    | true =>
      rw [hz] at ht
      simp only [cond_true] at ht
      simp only [Ty.set, set_same σ _ hf ht]
  | .idx _ _ :: _, _, hf, _ => by cases hf
  | .deref :: _, _, hf, _ => by cases hf

theorem upd_flat {S S' O2 : Nat → Prop} {g g' q' : Nat} {t t' : Ty} {x' : D} {cs' : List Value} {X : Nat → Prop} (hS : ∀ b, S b → S' b ∧ w'.heap[b]? = w.heap[b]?) (hr' : rep w' S' t' O2 x' cs') (hn' : cs'.length = t.size) (hsz : t'.size = t.size) :
    ∀ (σ : Path) (τ : Ty) (d : D) (cells : List Value) (q : Nat) (O : Nat → Prop), flatPath σ = true → τ.at σ = some t → cells.length = τ.size → rep w S τ O d cells → (∀ b, O b → w'.heap[b]? = w.heap[b]? ∧ ¬ O2 b) → goL w X g' q' g q σ →
    ∃ δ, g' = g ∧ q' = q + δ ∧ δ + t.size ≤ τ.size ∧ rep w' S' (τ.set σ t') (fun b => O b ∨ O2 b) (d.upd σ x') (cells.take δ ++ cs' ++ cells.drop (δ + t.size))
  | [], τ, d, cells, q, O, _, ht, hn, hr, hO, hg => by
    simp only [Ty.at, Option.some.injEq] at ht
    subst ht
    obtain ⟨rfl, rfl⟩ := hg
    refine ⟨0, rfl, rfl, by omega, ?_⟩
    have : cells.drop (0 + τ.size) = [] := by rw [Nat.zero_add, ← hn]; exact List.drop_length
    rw [this]
    simp only [List.take_zero, List.nil_append, List.append_nil, set_nil]
    exact rep_mono (fun b hb => ⟨hb, rfl⟩) _ _ _ _ _ (fun b hb => ⟨.inr hb, rfl⟩) hr'
  | .fst :: σ, τ, d, cells, q, O, hf, ht, hn, hr, hO, hg => by
    cases τ <;> simp only [Ty.at, reduceCtorEq] at ht
    rename_i a b
    obtain ⟨c1, c2, f, rfl, hn1, h1, h2⟩ := hr
    obtain ⟨δ, k1, k2, k3, k4⟩ := upd_flat hS hr' hn' hsz σ a d.fst c1 q _ hf ht hn1 h1 (fun b hb => hO b hb.1) hg
    classical
    refine ⟨δ, k1, k2, by simp only [Ty.size]; omega, c1.take δ ++ cs' ++ c1.drop (δ + t.size), c2, fun b => if O2 b then true else f b, ?_, ?_, ?_, ?_⟩
    · rw [List.take_append_of_le_length (by omega), List.drop_append_of_le_length (by omega)]
      simp
    · rw [size_set hsz σ a ht]; simp [hn', hn1]; omega
    · refine rep_mono (fun b hb => ⟨hb, rfl⟩) _ _ _ _ _ (fun b hb => ⟨?_, rfl⟩) k4
      rcases hb with hb | hb
      · exact ⟨.inl hb.1, by show (if O2 b then true else f b) = true; rw [if_neg (hO b hb.1).2]; exact hb.2⟩
      · exact ⟨.inr hb, if_pos hb⟩
    · refine rep_mono hS _ _ _ _ _ (fun b hb => ⟨⟨.inl hb.1, ?_⟩, (hO b hb.1).1⟩) h2
      show (if O2 b then true else f b) = false
      rw [if_neg (hO b hb.1).2]; exact hb.2
  | .snd z :: σ, τ, d, cells, q, O, hf, ht, hn, hr, hO, hg => by
    cases τ <;> simp only [Ty.at, reduceCtorEq] at ht
    rename_i a b
    cases hz : Nat.beq a.size z with
    | false => rw [hz] at ht; simp at ht
    | true =>
      rw [hz] at ht
      simp only [cond_true] at ht
      have hz := Nat.eq_of_beq_eq_true hz
      subst hz
      obtain ⟨c1, c2, f, rfl, hn1, h1, h2⟩ := hr
      have hn2 : c2.length = b.size := by simp only [List.length_append, Ty.size] at hn; omega
      obtain ⟨δ, k1, k2, k3, k4⟩ := upd_flat hS hr' hn' hsz σ b d.snd c2 (q + a.size) _ hf ht hn2 h2 (fun b hb => hO b hb.1) hg
      classical
      refine ⟨a.size + δ, k1, by omega, by simp only [Ty.size]; omega, c1, c2.take δ ++ cs' ++ c2.drop (δ + t.size), fun b => if O2 b then false else f b, ?_, hn1, ?_, ?_⟩
      · rw [← hn1, List.take_append, List.drop_append]
        simp
        rw [List.take_of_length_le (by omega), List.drop_of_length_le (by omega)]
        simp
        congr 2
        omega
      · refine rep_mono hS _ _ _ _ _ (fun b hb => ⟨⟨.inl hb.1, ?_⟩, (hO b hb.1).1⟩) h1
        show (if O2 b then false else f b) = true
        rw [if_neg (hO b hb.1).2]; exact hb.2
      · refine rep_mono (fun b hb => ⟨hb, rfl⟩) _ _ _ _ _ (fun b hb => ⟨?_, rfl⟩) k4
        rcases hb with hb | hb
        · exact ⟨.inl hb.1, by show (if O2 b then false else f b) = false; rw [if_neg (hO b hb.1).2]; exact hb.2⟩
        · exact ⟨.inr hb, if_pos hb⟩
  | .idx _ _ :: _, _, _, _, _, _, hf, _, _, _, _, _ => by cases hf
  | .deref :: _, _, _, _, _, _, hf, _, _, _, _, _ => by cases hf

/-- What lies in a row some of whose cells have been set. -/
theorem lies_splice {g q δ te : Nat} {c : Array Value} {cells cs' : List Value} (hc : w.heap[g]? = some (.cells c te (0, 0))) (hl : lies w g q cells) (hlen : q + cells.length ≤ c.size) (hd : δ + cs'.length ≤ cells.length) :
    lies (w.setCells g (q + δ) cs') g q (cells.take δ ++ cs' ++ cells.drop (δ + cs'.length)) := by
  obtain ⟨k1, _, _⟩ := heap_setCells cs' w g (q + δ) te c (0, 0) hc
  intro j v hv
  have hj : j < cells.length := by
    have := (List.getElem?_eq_some_iff.mp hv).1
    simp at this; omega
  have cell : (w.setCells g (q + δ) cs').cell? ⟨g, q + j, none⟩ = (setRange c (q + δ) cs')[q + j]? := by simp [World.cell?, k1]
  rw [cell, setRange_get _ _ _ _ (by omega)]
  by_cases h1 : j < δ
  · rw [if_neg (by omega)]
    rw [List.append_assoc, List.getElem?_append_left (by simp; omega), List.getElem?_take, if_pos h1] at hv
    have := hl j v hv
    simpa [World.cell?, hc] using this
  · by_cases h2 : j < δ + cs'.length
    · rw [if_pos (by omega)]
      rw [List.append_assoc, List.getElem?_append_right (by simp; omega), List.getElem?_append_left (by simp; omega)] at hv
      rw [show q + j - (q + δ) = j - δ by omega]
      have e : (cells.take δ).length = δ := by simp; omega
      rw [e] at hv
      exact hv
    · rw [if_neg (by omega)]
      rw [List.getElem?_append_right (by simp; omega), List.getElem?_drop] at hv
      have e : (cells.take δ ++ cs').length = δ + cs'.length := by simp; omega
      rw [e, show δ + cs'.length + (j - (δ + cs'.length)) = j by omega] at hv
      have := hl j v hv
      simpa [World.cell?, hc] using this

/-- Cells outside of what is set stay. -/
theorem lies_out {g q0 q te : Nat} {c : Array Value} {cells cs' : List Value} (hc : w.heap[g]? = some (.cells c te (0, 0))) (hl : lies w g q cells) (hlen : q0 + cs'.length ≤ c.size) (hd : q + cells.length ≤ q0 ∨ q0 + cs'.length ≤ q) :
    lies (w.setCells g q0 cs') g q cells := by
  obtain ⟨k1, _, _⟩ := heap_setCells cs' w g q0 te c (0, 0) hc
  intro j v hv
  have hj := (List.getElem?_eq_some_iff.mp hv).1
  have cell : (w.setCells g q0 cs').cell? ⟨g, q + j, none⟩ = (setRange c q0 cs')[q + j]? := by simp [World.cell?, k1]
  rw [cell, setRange_get _ _ _ _ hlen, if_neg (by omega)]
  have := hl j v hv
  simpa [World.cell?, hc] using this

theorem goL_flat' {X : Nat → Prop} {g' q' : Nat} {t : Ty} : ∀ (σ : Path) (τ : Ty) (g q : Nat), flatPath σ = true → τ.at σ = some t → goL w X g' q' g q σ → ∃ δ, g' = g ∧ q' = q + δ ∧ δ + t.size ≤ τ.size
  | [], τ, g, q, _, ht, hg => by
    simp only [Ty.at, Option.some.injEq] at ht
    subst ht
    obtain ⟨rfl, rfl⟩ := hg
    exact ⟨0, rfl, rfl, by omega⟩
  | .fst :: σ, τ, g, q, hf, ht, hg => by
    cases τ <;> simp only [Ty.at, reduceCtorEq] at ht
    obtain ⟨δ, h1, h2, h3⟩ := goL_flat' σ _ g q hf ht hg
    exact ⟨δ, h1, h2, by simp only [Ty.size]; omega⟩
  | .snd z :: σ, τ, g, q, hf, ht, hg => by
    cases τ <;> simp only [Ty.at, reduceCtorEq] at ht
    rename_i a b
    cases hz : Nat.beq a.size z with
    | false => rw [hz] at ht; simp at ht
    | true =>
      rw [hz] at ht
      simp only [cond_true] at ht
      have hz := Nat.eq_of_beq_eq_true hz
      subst hz
      obtain ⟨δ, h1, h2, h3⟩ := goL_flat' σ _ g (q + a.size) hf ht hg
      exact ⟨a.size + δ, h1, by omega, by simp only [Ty.size]; omega⟩
  | .idx _ _ :: _, _, _, _, hf, _, _ => by cases hf
  | .deref :: _, _, _, _, hf, _, _ => by cases hf

theorem storeTy_some {τ τ' t' : Ty} {π : Path} (h : storeTy τ π t' = some τ') : ∃ t0, τ.at π = some t0 ∧ t'.size = t0.size ∧ ((t0 = t' ∧ τ' = τ) ∨ (stealPath π = true ∧ τ' = τ.set π t')) := by
  unfold storeTy at h
  split at h
  · rename_i t0 hat
    split at h
    · rename_i hd
      simp only [Option.some.injEq] at h
      exact ⟨t0, hat, by rw [of_decide_eq_true hd], .inl ⟨of_decide_eq_true hd, h.symm⟩⟩
    · split at h
      · split at h
        · rename_i hk
          simp only [Bool.and_eq_true] at hk
          simp only [Option.some.injEq] at h
          exact ⟨.hole, hat, Nat.eq_of_beq_eq_true hk.2, .inr ⟨hk.1, h.symm⟩⟩
        · cases h
      · cases h
  · cases h

/-- A place of a slot's value is replaced: where it lies, and what the slot's value then is. -/
theorem upd_place {S S' O2 O : Nat → Prop} {t τ τ' : Ty} {d x' : D} {cs cs' : List Value} {v : Value} {g' q' : Nat} {X : Nat → Prop} {π : Path} (hr' : O g' → (∀ b, b ≠ g' → (w.setCells g' q' cs').heap[b]? = w.heap[b]?) → rep (w.setCells g' q' cs') S' t O2 x' cs')
    (hn' : cs'.length = t.size) (hSS : ∀ b, S b → S' b) (hSO : ∀ b, S b → ¬ O b) (hone : oneStep π = true) (hty : storeTy τ π t = some τ') (hin : inRow d π) (hr : rep w S τ O d cs) (hv : v = mkV τ cs) (hO : ∀ b, O b → ¬ O2 b) (hp : placeL w X v g' q' π) :
    O g' ∧ ∃ c te, w.heap[g']? = some (.cells c te (0, 0)) ∧ q' + cs'.length ≤ c.size ∧ rep (w.setCells g' q' cs') S' τ' (fun b => O b ∨ O2 b) (d.upd π x') cs ∧ v = mkV τ' cs := by
  obtain ⟨t0, hat, hsz0, hcase⟩ := storeTy_some hty
  cases π with
  | nil => cases hone
  | cons s σ =>
    cases s with
    | fst => cases hone
    | snd z => cases hone
    | deref =>
      have hf : flatPath σ = true := hone
      cases τ with
      | bx ob e =>
        cases ob with
        | false => cases hat
        | true =>
          simp only [Ty.at] at hat
          have hτ' : τ' = .bx true (e.set σ t) := by
            rcases hcase with ⟨rfl, rfl⟩ | ⟨_, rfl⟩
            · rw [set_same σ e hf hat]
            · rfl
          subst hτ'
          obtain ⟨g, c, te, cells, rfl, hOg, hc, hz, hn, hrep, hl⟩ := hr
          obtain ⟨b, hb, hgo⟩ := hp
          subst hv
          simp only [mkV, List.headD_cons, Value.pointer.injEq, Option.some.injEq] at hb
          subst hb
          obtain ⟨δ, rfl, rfl, hδ⟩ := goL_flat' σ e _ _ hf hat hgo
          simp only [Nat.zero_add] at *
          obtain ⟨k1, k2, k3⟩ := heap_setCells cs' w g' δ te c (0, 0) hc
          have hr2 := hr' hOg k2
          have hne : ∀ b, S b → S' b ∧ (w.setCells g' δ cs').heap[b]? = w.heap[b]? := fun b hb => ⟨hSS b hb, k2 b fun e => hSO b hb (e ▸ hOg)⟩
          obtain ⟨δ', _, e2, _, hu⟩ := upd_flat (X := X) hne hr2 (hn'.trans hsz0) hsz0 σ e d cells 0 _ hf hat hn hrep (fun b hb => ⟨k2 b hb.2, hO b hb.1⟩) hgo
          have hd : δ' = δ := by omega
          subst hd
          refine ⟨hOg, c, te, hc, by rw [hz, hn']; omega, ⟨g', setRange c δ' cs', te, cells.take δ' ++ cs' ++ cells.drop (δ' + t0.size), rfl, .inl hOg, k1, by rw [setRange_size, size_set hsz0 σ e hat]; exact hz, ?_, ?_, ?_⟩, rfl⟩
          · rw [size_set hsz0 σ e hat]; simp [hn']; omega
          · refine rep_mono (fun b hb => ⟨hb, rfl⟩) _ _ _ _ _ (fun b hb => ⟨?_, rfl⟩) hu
            rcases hb with hb | hb
            · exact ⟨.inl hb.1, hb.2⟩
            · exact ⟨.inr hb, fun e => hO g' hOg (e ▸ hb)⟩
          · rw [← hsz0, ← hn']
            have := lies_splice (δ := δ') (cs' := cs') hc hl (by omega) (by omega)
            rwa [Nat.zero_add] at this
      | _ => cases hat
    | idx i z =>
      have hf : flatPath σ = true := hone
      cases τ with
      | sl ob e =>
        cases ob with
        | false => cases hat
        | true =>
          simp only [Ty.at] at hat
          cases hz : Nat.beq e.size z with
          | false => rw [hz] at hat; simp at hat
          | true =>
            rw [hz] at hat
            simp only [cond_true] at hat
            have hz := Nat.eq_of_beq_eq_true hz
            subst hz
            obtain ⟨rfl, rfl⟩ : t0 = t ∧ τ' = .sl true e := by
              rcases hcase with h | ⟨h, _⟩
              · exact h
              · cases h
            rcases hr with ⟨rfl, k, _⟩ | ⟨g, q, cap, c, te, rfl, hz0, hOg, hc, hb, hle, f, hall⟩
            · simp only [inRow, k, List.length_nil] at hin; omega
            · obtain ⟨b, n0, c0, hb0, hgo⟩ := hp
              subst hv
              simp only [mkV, List.headD_cons, Value.slice.injEq, Option.some.injEq] at hb0
              obtain ⟨rfl, _, _⟩ := hb0
              have hi : i < d.toL.length := hin
              obtain ⟨cells, hn, hrep, hl⟩ := hall i d.toL[i] (List.getElem?_eq_getElem hi)
              simp only at hgo
              obtain ⟨δ, rfl, rfl, hδ⟩ := goL_flat' σ e _ _ hf hat hgo
              have hcap : (i + 1) * e.size ≤ cap * e.size := Nat.mul_le_mul_right _ (by omega)
              rw [Nat.succ_mul] at hcap
              obtain ⟨k1, k2, k3⟩ := heap_setCells cs' w g' (q + i * e.size + δ) te c (0, 0) hc
              have hr2 := hr' hOg k2
              have hne : ∀ b, S b → S' b ∧ (w.setCells g' (q + i * e.size + δ) cs').heap[b]? = w.heap[b]? := fun b hb => ⟨hSS b hb, k2 b fun e => hSO b hb (e ▸ hOg)⟩
              obtain ⟨δ', _, e2, _, hu⟩ := upd_flat (X := X) hne hr2 hn' rfl σ e d.toL[i] cells _ _ hf hat hn hrep (fun b hb => ⟨k2 b hb.1.2, hO b hb.1.1⟩) hgo
              rw [set_same σ e hf hat] at hu
              have hd : δ' = δ := by omega
              subst hd
              classical
              have hget : d.toL.getD i .u = d.toL[i] := by simp [List.getD, hi]
              refine ⟨hOg, c, te, hc, by rw [hn']; omega, .inr ⟨g', q, cap, setRange c (q + i * e.size + δ') cs', te, ?_, hz0, .inl hOg, k1, by rw [setRange_size]; exact hb, ?_, fun b => if O2 b then i else f b, fun m x hx => ?_⟩, rfl⟩
              · simp [D.upd, D.toL]
              · simpa [D.upd, D.toL] using hle
              · simp only [D.upd, toL_l, List.getElem?_set] at hx
                by_cases hm : i = m
                · subst hm
                  simp only [if_true, hi, Option.some.injEq] at hx
                  subst hx
                  rw [hget]
                  refine ⟨cells.take δ' ++ cs' ++ cells.drop (δ' + t0.size), ?_, rep_mono (fun b hb => ⟨hb, rfl⟩) _ _ _ _ _ (fun b hb => ⟨?_, rfl⟩) hu, ?_⟩
                  · simp [hn']; omega
                  · rcases hb with hb | hb
                    · exact ⟨⟨.inl hb.1.1, hb.1.2⟩, by show (if O2 b then i else f b) = i; rw [if_neg (hO b hb.1.1)]; exact hb.2⟩
                    · exact ⟨⟨.inr hb, fun e => hO g' hOg (e ▸ hb)⟩, if_pos hb⟩
                  · rw [← hn']
                    exact lies_splice (δ := δ') (cs' := cs') hc hl (by omega) (by omega)
                · rw [if_neg hm] at hx
                  obtain ⟨cells2, hn2, hrep2, hl2⟩ := hall m x hx
                  refine ⟨cells2, hn2, rep_mono hne _ _ _ _ _ (fun b hb => ⟨⟨⟨.inl hb.1.1, hb.1.2⟩, by show (if O2 b then i else f b) = m; rw [if_neg (hO b hb.1.1)]; exact hb.2⟩, k2 b hb.1.2⟩) hrep2, ?_⟩
                  refine lies_out hc hl2 (by omega) ?_
                  rcases Nat.lt_or_gt_of_ne hm with h | h
                  · right
                    have : (i + 1) * e.size ≤ m * e.size := Nat.mul_le_mul_right _ h
                    rw [Nat.succ_mul] at this
                    omega
                  · left
                    have : (m + 1) * e.size ≤ i * e.size := Nat.mul_le_mul_right _ h
                    rw [Nat.succ_mul] at this
                    omega
      | _ => cases hat

theorem size_setCells : ∀ (vs : List Value) (w : World) (g q : Nat), (w.setCells g q vs).heap.size = w.heap.size
  | [], _, _, _ => rfl
  | v :: vs, w, g, q => by rw [World.setCells, size_setCells vs]; simp [World.setCell]

theorem store_run (hT : TOk P T) {t : Nat} {τ : Ty} (h : fitsTy T t τ = true) {g q te : Nat} {c : Array Value} {cs : List Value} (hn : cs.length = τ.size) (h1 : ∀ v ∈ cs, v.oneCell' = true) (hm : τ.mem = true) (hc : w.heap[g]? = some (.cells c te (0, 0))) (hle : q + cs.length ≤ c.size) :
    (Instr.storeAt t (.pointer (some ⟨g, q, none⟩)) (mkV τ cs)).run P w = .ok () (w.setCells g q cs) := by
  obtain ⟨i, hi, hs, d, hu, hd⟩ := fits_info hT h
  have hcells := mkV_cells hm hn h1
  have hst := run_storeCells_cells (P := P) g q cs 0 w (fun k hk => by
    have : q + k < c.size := by omega
    simp [World.cell?, hc, this]) (fun k hk => by simp [World.frozen?, hc]) h1
  simp only [Nat.add_zero] at hst
  have e : ¬ (mkV τ cs).cells.size ≠ i.size := by rw [hcells, hs]; simpa using hn
  simp [Instr.storeAt, Instr.sureAddr, storeVar, sizeOf, typeInfo, hi, hcells, hn, hs, hst]

theorem ptPlace_ok {p : Operand} {r : Nat} {π : Path} (R1 : Rel C F ow a w) (hpl : ptPlace F p = some (r, π)) : ∃ g q, a.eval p = .pointer (some ⟨g, q, none⟩) ∧ placeL w (fun b => ow b = some r) (tmOf a r) g q π := by
  unfold ptPlace at hpl
  split at hpl
  · rename_i s
    rw [Option.bind_eq_some_iff] at hpl
    obtain ⟨e0, he0, hpl⟩ := hpl
    split at hpl
    · simp only [Option.some.injEq, Prod.mk.injEq] at hpl
      obtain ⟨rfl, rfl⟩ := hpl
      obtain ⟨g, cs, hp, _⟩ := val_bx R1 he0
      exact ⟨g, 0, hp, _, hp, rfl, rfl⟩
    · simp only [Option.some.injEq, Prod.mk.injEq] at hpl
      obtain ⟨rfl, rfl⟩ := hpl
      obtain ⟨g, q, cs, e1, _, _, _, _, hp⟩ := R1.ents s _ he0
      exact ⟨g, q, e1, hp _ rfl⟩
    · cases hpl
  · cases hpl

theorem storeE_ok {t : Nat} {p x : Operand} (hT : TOk P T) (hA : A.prot = C.prot) (R : Rel C F ow a w) (ho : o.op = .store t p x) (h : storeE T A t p x F = some (F1, e, vc)) (hv : vc) :
    ∃ w', (execOp a.eval o).run P w = .ok .skip w' ∧ ∃ ow', Rel C F1 ow' a w' := by
  unfold storeE at h
  rw [Option.bind_eq_some_iff] at h
  obtain ⟨⟨F2, t', d'⟩, hab, h⟩ := h
  rw [Option.bind_eq_some_iff] at h
  obtain ⟨⟨r, π⟩, hpl, h⟩ := h
  obtain ⟨hm, ow1, cs', R1, g1, g2, hx, hr'⟩ := absorb_ok R hA hab
  simp only at h
  split at h
  · rename_i τr dr hFr
    rw [Option.bind_eq_some_iff] at h
    obtain ⟨τr', hty, h⟩ := h
    replace h := bind_guard h; obtain ⟨hk, h⟩ := h
    simp only [Bool.and_eq_true] at hk
    obtain ⟨hone, hfit⟩ := hk
    simp only [Option.some.injEq, Prod.mk.injEq] at h
    obtain ⟨rfl, rfl, rfl⟩ := h
    obtain ⟨csr, hcr, hrr⟩ := R1.ents r _ hFr
    have hrn := R1.lt r _ hFr
    obtain ⟨g, q, hp, hplace⟩ := ptPlace_ok R1 hpl
    obtain ⟨l1, l2⟩ := rep_len hm hr'
    let ow2 : Nat → Option Nat := give ow1 C.n (some r)
    have hst2 : ∀ b, Stb C ow1 w b → Stb C ow2 (w.setCells g q cs') b := fun b hb => ⟨hb.1, by rw [size_setCells]; exact hb.2.1, give_none hb.2.2⟩
    obtain ⟨hOg, c, te, hc, hle, hrep, hcr'⟩ := upd_place (w := w) (S := Stb C ow1 w) (S' := Stb C ow2 (w.setCells g q cs')) (O2 := fun b => ow1 b = some C.n) (O := fun b => ow1 b = some r) (x' := d') (cs' := cs') (t := t')
      (fun hg hoth => by
        refine rep_mono (fun b hb => ⟨hst2 b hb, hoth b fun e => ?_⟩) _ _ _ _ _ (fun b hb => ⟨hb.1, hoth b fun e => ?_⟩) hr'
        · subst e; rw [hb.2.2] at hg; cases hg
        · subst e; rw [hb.1] at hg; simp only [Option.some.injEq] at hg; omega) l1 hst2 (fun b hb h => by rw [hb.2.2] at h; cases h) hone hty hv hrr hcr (fun b h1 h2 => by rw [h1] at h2; simp only [Option.some.injEq] at h2; omega) hplace
    obtain ⟨k1, k2, k3⟩ := heap_setCells cs' w g q te c (0, 0) hc
    obtain ⟨s1, s2, s3⟩ := same_setCells cs' w g q
    have hkeep : ∀ b s, ow1 b = some s → s ≠ r → s ≠ C.n → ow2 b = some s ∧ (w.setCells g q cs').heap[b]? = w.heap[b]? := fun b s hb h1 h2 =>
      ⟨give_ne hb h2, k2 b fun e => by subst e; rw [hb] at hOg; simp only [Option.some.injEq] at hOg; exact h1 hOg⟩
    have hstb : ∀ b, Stb C ow1 w b → Stb C ow2 (w.setCells g q cs') b ∧ (w.setCells g q cs').heap[b]? = w.heap[b]? := fun b hb =>
      ⟨hst2 b hb, k2 b fun e => by subst e; rw [hb.2.2] at hOg; cases hOg⟩
    refine ⟨w.setCells g q cs', ?_, ow2, { R1 with ents := ?_, root := ?_, lt := ?_, own := ?_, frame := ?_, grow := by rw [k3]; exact R1.grow, os := by rw [s1]; exact R1.os, output := by rw [s2]; exact R1.output, tape := by rw [s3]; exact R1.tape, thaw := fun b => by rw [setCells_thaw, R1.thaw] }⟩
    · have := store_run (P := P) (w := w) hT hfit l1 l2 hm hc hle
      simp [execOp, ho, hp, hx, this]
    · intro s e' h
      rcases put_some h with ⟨rfl, rfl⟩ | ⟨hs, hF, hroot⟩
      · refine ⟨csr, hcr', rep_mono (fun b hb => ⟨hb, rfl⟩) _ _ _ _ _ (fun b hb => ⟨?_, rfl⟩) hrep⟩
        rcases hb with hb | hb
        · exact give_ne hb (by omega)
        · exact give_eq hb
      · have hsn := R1.lt s e' hF
        exact EntOk.mono hstb (fun _ _ _ b hb => hkeep b s hb hs (by omega)) (fun r' hr' => ⟨rfl, fun b hb => hkeep b r' hb (fun e => hroot (by rw [hr', e])) (by have := R1.root s e' r' hF hr'; omega)⟩) (R1.ents s e' hF)
    · intro s e' r' h hr'
      rcases put_some h with ⟨rfl, rfl⟩ | ⟨_, hF, _⟩
      · cases hr'
      · exact R1.root s e' r' hF hr'
    · intro s e' h
      rcases put_some h with ⟨rfl, rfl⟩ | ⟨_, hF, _⟩
      · exact hrn
      · exact R1.lt s e' hF
    · intro b s hb
      rw [k3]
      rcases give_some hb with ⟨hb1, rfl⟩ | ⟨hb1, _⟩
      · obtain ⟨h4, h5⟩ := R1.own b _ hb1
        exact ⟨h4, .inr (h5.resolve_left fun h => by have := R1.protlt _ h.1; omega)⟩
      · exact R1.own b s hb1
    · intro b h1 h2 h3
      rw [k2 b fun e => ?_]
      · exact R1.frame b h1 h2 h3
      · subst e
        rcases (R1.own b r hOg).2 with h | h | h
        · exact h2 ⟨r, h.1, h.2⟩
        · exact h3 h
        · omega
  · cases h

end
end Go.Pi
