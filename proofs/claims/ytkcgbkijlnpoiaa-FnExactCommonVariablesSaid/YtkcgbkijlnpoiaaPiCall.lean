/- A call does what the generator says. -/
import Derived.Test.YtkcgbkijlnpoiaaPiSat
namespace Go.Pi

section
variable {P : Program} {C : Ctx} {E : Env} {T : Nat → TI} {A : Ann} {F F1 : Fr} {ow : Nat → Option Nat} {a : Act} {w w' : World} {e : Ent} {vc : Prop} {o : Oper}

/-- Slot s's value, with what it owns, goes to the holder q. -/
theorem Rel.takeTo {F' : Fr} {s q : Nat} {t : Ty} {d : D} (R : Rel C F ow a w) (hA : A.prot = C.prot) (hq : C.n ≤ q) (h : F.take A s = some (F', t, d)) :
    s < C.n ∧ Rel C F' (give ow s (some q)) a w ∧ (∀ b, Stb C ow w b → Stb C (give ow s (some q)) w b) ∧ ∃ cs, tmOf a s = mkV t cs ∧ rep w (Stb C (give ow s (some q)) w) t (fun b => give ow s (some q) b = some q) d cs := by
  obtain ⟨hF, rfl, hnp, _, _⟩ := R.take hA h
  have hs := R.lt s _ hF
  have hst : ∀ b, Stb C ow w b → Stb C (give ow s (some q)) w b := fun b hb => ⟨hb.1, hb.2.1, give_none hb.2.2⟩
  refine ⟨hs, ?_, hst, ?_⟩
  · refine R.change (fun q e h => (drop_some h).2.1) (fun b hb => ⟨hst b hb, rfl⟩) (fun q e h => ?_) rfl rfl (fun _ _ => rfl) (fun b q hb => ?_) (fun _ _ _ _ => rfl) (Nat.le_refl _) rfl rfl rfl
    · obtain ⟨h1, h2, h3⟩ := drop_some h
      exact ⟨rfl, fun _ _ _ b hb => ⟨give_ne hb h1, rfl⟩, fun r hr => ⟨rfl, fun b hb => ⟨give_ne hb (fun e => h3 (by rw [hr, e])), rfl⟩⟩⟩
    · rcases give_some hb with ⟨h1, h2⟩ | ⟨h1, h2⟩
      · obtain ⟨h3, h4⟩ := R.own b s h1
        exact ⟨h3, .inr (h4.resolve_left fun h => hnp h.1)⟩
      · exact R.own b _ h1
  · obtain ⟨cs, e1, h1⟩ := R.ents s _ hF
    exact ⟨cs, e1, rep_mono (fun b hb => ⟨hst b hb, rfl⟩) _ _ _ _ _ (fun b hb => ⟨give_eq hb, rfl⟩) h1⟩

/-- What is known of an argument, once it is ready. -/
def ArgFact (C : Ctx) (w : World) (a : Act) (ow : Nat → Option Nat) (i : Nat) (m : PM × Ty) (x : Operand) : AR → Prop
  | .bor => m.1 = .bor
  | .tak d => m.1 = .tak ∧ ∃ cs, a.eval x = mkV m.2 cs ∧ rep w (Stb C ow w) m.2 (fun b => ow b = some (C.n + 1 + i)) d cs
  | .ino r => m.1 = .ino ∧ r < C.n ∧ a.eval x = tmOf a r

theorem argE_ok {leak : Bool} {ty i : Nat} {m : PM × Ty} {x : Operand} {ar : AR} (R : Rel C F ow a w) (hA : A.prot = C.prot) (h : argE T A leak ty F m x = some (F1, ar)) :
    ∃ ow1, Rel C F1 ow1 a w ∧ (∀ b, Stb C ow w b → Stb C ow1 w b) ∧ (∀ b q, ow b = some q → C.n ≤ q → ow1 b = some q) ∧ ArgFact C w a ow1 i m x ar := by
  have frz : ∀ {s : Nat} {G : Fr} {r : AR}, m.1 = .bor → (F.freeze A s).map (fun F' => (F', AR.bor)) = some (G, r) →
      ∃ ow1, Rel C G ow1 a w ∧ (∀ b, Stb C ow w b → Stb C ow1 w b) ∧ (∀ b q, ow b = some q → C.n ≤ q → ow1 b = some q) ∧ ArgFact C w a ow1 i m x r := by
    intro s G r hm h
    simp only [Option.map_eq_some_iff, Prod.mk.injEq] at h
    obtain ⟨F', hF', rfl, rfl⟩ := h
    obtain ⟨R', hnp, hst⟩ := R.freeze hA hF'
    obtain ⟨t, d, hF, _, _⟩ := freeze_some hF'
    have hs := R.lt s _ hF
    exact ⟨_, R', fun b hb => hst b (.inl hb), fun b q hb hq => give_ne hb (by omega), hm⟩
  have same : ∀ {G : Fr} {r : AR}, ArgFact C w a ow i m x AR.bor → some (F, AR.bor) = some (G, r) →
      ∃ ow1, Rel C G ow1 a w ∧ (∀ b, Stb C ow w b → Stb C ow1 w b) ∧ (∀ b q, ow b = some q → C.n ≤ q → ow1 b = some q) ∧ ArgFact C w a ow1 i m x r := by
    intro G r hm h
    simp only [Option.some.injEq, Prod.mk.injEq] at h
    obtain ⟨rfl, rfl⟩ := h
    exact ⟨ow, R, fun _ h => h, fun _ _ h _ => h, hm⟩
  unfold argE at h
  rw [Option.bind_eq_some_iff] at h
  obtain ⟨e0, he, h⟩ := h
  split at h
  · rename_i hm
    split at h
    · exact same hm h
    · split at h
      · split at h
        · exact same hm h
        · split at h
          · exact frz hm h
          · exact same hm h
      · exact frz hm h
      · cases h
      · cases h
  · rename_i hm
    have tk : ∀ {s : Nat} {G : Fr} {r : AR}, a.eval x = tmOf a s → ((F.take A s).bind fun q => (guard' (decide (q.2.1 = m.2))).bind fun _ => some (q.1, AR.tak q.2.2)) = some (G, r) →
        ∃ ow1, Rel C G ow1 a w ∧ (∀ b, Stb C ow w b → Stb C ow1 w b) ∧ (∀ b q, ow b = some q → C.n ≤ q → ow1 b = some q) ∧ ArgFact C w a ow1 i m x r := by
      intro s G r hx h
      rw [Option.bind_eq_some_iff] at h
      obtain ⟨⟨F', t, d⟩, hF', h⟩ := h
      replace h := bind_guard h; obtain ⟨hk, h⟩ := h
      have hk := of_decide_eq_true hk
      simp only [Option.some.injEq, Prod.mk.injEq] at h hk
      obtain ⟨rfl, rfl⟩ := h
      obtain ⟨hs, R', hst, cs, h1, h2⟩ := R.takeTo (q := C.n + 1 + i) hA (by omega) hF'
      exact ⟨_, R', hst, fun b q hb hq => give_ne hb (by omega), hm, cs, by rw [hx, h1, hk], by rw [← hk]; exact h2⟩
    split at h
    · rename_i s
      split at h
      · exact tk rfl h
      · rename_i r
        obtain ⟨cs, _, _, hl⟩ := R.ents s _ he
        exact tk ((hl [] rfl).1 rfl) h
      · cases h
    · rename_i hnt
      split at h
      · rename_i t d
        replace h := bind_guard h; obtain ⟨hk, h⟩ := h
        have hk := of_decide_eq_true hk
        simp only [Option.some.injEq, Prod.mk.injEq] at h
        obtain ⟨rfl, rfl⟩ := h
        refine ⟨ow, R, fun _ h => h, fun _ _ h _ => h, hm, ?_⟩
        cases x with
        | tmp s => exact absurd rfl (hnt s)
        | const v =>
          simp only [ev, Option.map_eq_some_iff] at he
          obtain ⟨q, hq, he⟩ := he
          obtain ⟨q1, q2⟩ := q
          simp only [Ent.val.injEq] at he
          obtain ⟨rfl, rfl⟩ := he
          obtain ⟨cs, k1, _, k2⟩ := const_look hq w (Stb C ow w) (fun b => ow b = some (C.n + 1 + i))
          exact ⟨cs, by rw [← hk]; exact k1, by rw [← hk]; exact k2⟩
        | func f =>
          simp only [ev, Option.some.injEq, Ent.val.injEq] at he
          obtain ⟨rfl, rfl⟩ := he
          exact ⟨[.func (.func f) #[] #[]], by rw [← hk]; rfl, by rw [← hk]; exact ⟨[], rfl, rfl⟩⟩
        | global g => cases he
      · cases h
  · rename_i hm
    split at h
    · rename_i s
      split at h
      · simp only [Option.some.injEq, Prod.mk.injEq] at h
        obtain ⟨rfl, rfl⟩ := h
        exact ⟨ow, R, fun _ h => h, fun _ _ h _ => h, hm, R.lt s _ he, rfl⟩
      · rename_i r
        simp only [Option.some.injEq, Prod.mk.injEq] at h
        obtain ⟨rfl, rfl⟩ := h
        obtain ⟨cs, _, _, hl⟩ := R.ents s _ he
        exact ⟨ow, R, fun _ h => h, fun _ _ h _ => h, hm, R.root s _ _ he rfl, (hl [] rfl).1 rfl⟩
      · rename_i r
        split at h
        · rename_i τr dr hFr
          simp only [Option.some.injEq, Prod.mk.injEq] at h
          obtain ⟨rfl, rfl⟩ := h
          obtain ⟨g, q, cs, hp, _, _, _, _, hl⟩ := R.ents s _ he
          obtain ⟨b, hb, h1, h2⟩ := hl _ rfl
          obtain ⟨g', _, hg', _⟩ := val_bx R hFr
          refine ⟨ow, R, fun _ h => h, fun _ _ h _ => h, hm, R.root s _ _ he rfl, ?_⟩
          rw [hg'] at hb
          simp only [Value.pointer.injEq, Option.some.injEq] at hb
          subst hb
          rw [eval_tmp, hp, hg', ← h1, ← h2]
        · cases h
      · cases h
    · cases h

theorem argsE_ok {leak : Bool} (hA : A.prot = C.prot) : ∀ (ms : List (PM × Ty)) (xs : List (Operand × Nat)) (i : Nat) (F F1 : Fr) (ow : Nat → Option Nat) (ars : List AR), Rel C F ow a w → argsE T A leak F ms xs = some (F1, ars) →
    xs.length = ms.length ∧ ars.length = ms.length ∧ ∃ ow1, Rel C F1 ow1 a w ∧ (∀ b, Stb C ow w b → Stb C ow1 w b) ∧ (∀ b q, ow b = some q → C.n ≤ q → ow1 b = some q) ∧
      ∀ (k : Nat) (m : PM × Ty) (x : Operand × Nat) (ar : AR), ms[k]? = some m → xs[k]? = some x → ars[k]? = some ar → ArgFact C w a ow1 (i + k) m x.1 ar
  | [], [], i, F, F1, ow, ars, R, h => by
    simp only [argsE, Option.some.injEq, Prod.mk.injEq] at h
    obtain ⟨rfl, rfl⟩ := h
    exact ⟨rfl, rfl, ow, R, fun _ h => h, fun _ _ h _ => h, fun k m x ar h => by simp at h⟩
  | m :: ms, (x, t) :: xs, i, F, F1, ow, ars, R, h => by
    simp only [argsE] at h
    rw [Option.bind_eq_some_iff] at h
    obtain ⟨⟨F2, ar⟩, h1, h⟩ := h
    simp only [Option.map_eq_some_iff] at h
    obtain ⟨⟨F3, ars'⟩, h2, h⟩ := h
    simp only [Prod.mk.injEq] at h
    obtain ⟨rfl, rfl⟩ := h
    obtain ⟨ow1, R1, s1, k1, f1⟩ := argE_ok (i := i) R hA h1
    obtain ⟨l1, l2, ow2, R2, s2, k2, f2⟩ := argsE_ok hA ms xs (i + 1) F2 F3 ow1 ars' R1 h2
    refine ⟨by simp [l1], by simp [l2], ow2, R2, fun b hb => s2 b (s1 b hb), fun b q hb hq => k2 b q (k1 b q hb hq) hq, fun k m' x' ar' hm hx har => ?_⟩
    cases k with
    | zero =>
      simp only [List.getElem?_cons_zero, Option.some.injEq] at hm hx har
      subst hm hx har
      cases ar with
      | bor => exact f1
      | tak d =>
        obtain ⟨g1, cs, g2, g3⟩ := f1
        exact ⟨g1, cs, g2, rep_mono (fun b hb => ⟨s2 b hb, rfl⟩) _ _ _ _ _ (fun b hb => ⟨k2 b _ hb (by omega), rfl⟩) g3⟩
      | ino r => exact f1
    | succ k =>
      simp only [List.getElem?_cons_succ] at hm hx har
      have := f2 k m' x' ar' hm hx har
      rwa [show i + 1 + k = i + (k + 1) by omega] at this
  | [], _ :: _, _, _, _, _, _, _, h => by simp [argsE] at h
  | _ :: _, [], _, _, _, _, _, _, h => by simp [argsE] at h

/-- Which argument's blocks a holder's are. -/
def ownIdx (n : Nat) : Nat → List AR → Nat → Option Nat
  | _, [], _ => none
  | i, .bor :: rs, q => ownIdx n (i + 1) rs q
  | i, .tak _ :: rs, q => if q = n + 1 + i then some i else ownIdx n (i + 1) rs q
  | i, .ino r :: rs, q => if q = r then some i else ownIdx n (i + 1) rs q

theorem ownIdx_some {n : Nat} : ∀ (ars : List AR) (i q k : Nat), ownIdx n i ars q = some k → i ≤ k ∧ ∃ ar, ars[k - i]? = some ar ∧ ((∃ d, ar = .tak d ∧ q = n + 1 + k) ∨ ar = .ino q)
  | [], _, _, _, h => by cases h
  | .bor :: rs, i, q, k, h => by
    obtain ⟨h1, ar, h2, h3⟩ := ownIdx_some rs (i + 1) q k h
    exact ⟨by omega, ar, by rw [show k - i = k - (i + 1) + 1 by omega]; simpa using h2, h3⟩
  | .tak d :: rs, i, q, k, h => by
    simp only [ownIdx] at h
    split at h
    · simp only [Option.some.injEq] at h
      subst h
      exact ⟨Nat.le_refl _, .tak d, by simp, .inl ⟨d, rfl, by assumption⟩⟩
    · obtain ⟨h1, ar, h2, h3⟩ := ownIdx_some rs (i + 1) q k h
      exact ⟨by omega, ar, by rw [show k - i = k - (i + 1) + 1 by omega]; simpa using h2, h3⟩
  | .ino r :: rs, i, q, k, h => by
    simp only [ownIdx] at h
    split at h
    · simp only [Option.some.injEq] at h
      subst h
      rename_i hq
      subst hq
      exact ⟨Nat.le_refl _, .ino q, by simp, .inr rfl⟩
    · obtain ⟨h1, ar, h2, h3⟩ := ownIdx_some rs (i + 1) q k h
      exact ⟨by omega, ar, by rw [show k - i = k - (i + 1) + 1 by omega]; simpa using h2, h3⟩

theorem mem_inoSlots {r : Nat} : ∀ (ars : List AR), r ∈ inoSlots ars ↔ ∃ k : Nat, ars[k]? = some (.ino r)
  | [] => by simp [inoSlots]
  | .bor :: rs => by
    show r ∈ inoSlots rs ↔ _
    rw [mem_inoSlots rs]
    constructor
    · rintro ⟨k, h⟩; exact ⟨k + 1, by simpa using h⟩
    · rintro ⟨k, h⟩; cases k with | zero => simp at h | succ k => exact ⟨k, by simpa using h⟩
  | .tak d :: rs => by
    show r ∈ inoSlots rs ↔ _
    rw [mem_inoSlots rs]
    constructor
    · rintro ⟨k, h⟩; exact ⟨k + 1, by simpa using h⟩
    · rintro ⟨k, h⟩; cases k with | zero => simp at h | succ k => exact ⟨k, by simpa using h⟩
  | .ino s :: rs => by
    rw [inoSlots, List.mem_cons, mem_inoSlots rs]
    constructor
    · rintro (h | ⟨k, h⟩)
      · exact ⟨0, by simp [h]⟩
      · exact ⟨k + 1, by simpa using h⟩
    · rintro ⟨k, h⟩
      cases k with
      | zero => simp at h; exact .inl h.symm
      | succ k => exact .inr ⟨k, by simpa using h⟩

/-- The holder of the k-th argument is the k-th's alone. -/
theorem ownIdx_at {n : Nat} : ∀ (ars : List AR) (i k : Nat) (ar : AR), apart (inoSlots ars) = true → (∀ (j r : Nat), ars[j]? = some (.ino r) → r < n) → ars[k]? = some ar →
    (∀ d, ar = .tak d → ownIdx n i ars (n + 1 + (i + k)) = some (i + k)) ∧ (∀ r, ar = .ino r → ownIdx n i ars r = some (i + k))
  | [], _, _, _, _, _, h => by simp at h
  | hd :: rs, i, k, ar, ha, hlt, h => by
    have hlt' : ∀ (j r : Nat), rs[j]? = some (.ino r) → r < n := fun j r hj => hlt (j + 1) r (by simpa using hj)
    have ha' : apart (inoSlots rs) = true := by
      cases hd with
      | bor => exact ha
      | tak d => exact ha
      | ino r => simp only [inoSlots, apart, Bool.and_eq_true] at ha; exact ha.2
    cases k with
    | zero =>
      simp only [List.getElem?_cons_zero, Option.some.injEq] at h
      subst h
      refine ⟨?_, ?_⟩
      · rintro d rfl; simp [ownIdx]
      · rintro r rfl; simp [ownIdx]
    | succ k =>
      simp only [List.getElem?_cons_succ] at h
      obtain ⟨h1, h2⟩ := ownIdx_at rs (i + 1) k ar ha' hlt' h
      have e : i + 1 + k = i + (k + 1) := by omega
      rw [e] at h1 h2
      refine ⟨fun d hd' => ?_, fun r hr => ?_⟩
      · have := h1 d hd'
        cases hd with
        | bor => exact this
        | tak d' => simp only [ownIdx]; rw [if_neg (by omega)]; exact this
        | ino r' => simp only [ownIdx]; rw [if_neg (by have := hlt 0 r' rfl; omega)]; exact this
      · have := h2 r hr
        subst hr
        cases hd with
        | bor => exact this
        | tak d' => simp only [ownIdx]; rw [if_neg (by have := hlt' k r h; omega)]; exact this
        | ino r' =>
          simp only [ownIdx]
          rw [if_neg ?_]
          · exact this
          · intro e
            subst e
            simp only [inoSlots, apart, Bool.and_eq_true, Bool.not_eq_true'] at ha
            have hm : r ∈ inoSlots rs := (mem_inoSlots rs).mpr ⟨k, h⟩
            rw [List.contains_iff_mem.mpr hm] at ha
            exact absurd ha.1 (by simp)

/-- What the arguments hold. -/
theorem dataE_ok {leak : Bool} {ss : List Nat} (R : Rel C F ow a w) : ∀ (ms : List (PM × Ty)) (xs : List (Operand × Nat)) (ars : List AR) (ds : List D), dataE T F leak ss ms xs ars = some ds →
    ds.length = ms.length ∧ ∀ (k : Nat) (m : PM × Ty) (x : Operand × Nat) (ar : AR) (d : D), ms[k]? = some m → xs[k]? = some x → ars[k]? = some ar → ds[k]? = some d →
      match ar with
      | .bor => ∃ cs, a.eval x.1 = mkV m.2 cs ∧ rd w (fun b => Stb C ow w b ∨ (leak = false ∧ ∃ s, ow b = some s ∧ s < C.n ∧ s ∉ ss)) m.2 d cs
      | .tak d' => d = d'
      | .ino r => F r = some (.val m.2 d)
  | [], [], [], ds, h => by
    simp only [dataE, Option.some.injEq] at h
    subst h
    exact ⟨rfl, fun k m x ar d h => by simp at h⟩
  | m :: ms, (x, t) :: xs, .bor :: rs, ds, h => by
    simp only [dataE] at h
    rw [Option.bind_eq_some_iff] at h
    obtain ⟨e0, he, h⟩ := h
    rw [Option.bind_eq_some_iff] at h
    obtain ⟨d0, hd0, h⟩ := h
    simp only [Option.map_eq_some_iff] at h
    obtain ⟨ds', hds, rfl⟩ := h
    obtain ⟨l1, f1⟩ := dataE_ok R ms xs rs ds' hds
    refine ⟨by simp [l1], fun k m' x' ar' d' hm hx har hd => ?_⟩
    cases k with
    | succ k => simp only [List.getElem?_cons_succ] at hm hx har hd; exact f1 k m' x' ar' d' hm hx har hd
    | zero =>
      simp only [List.getElem?_cons_zero, Option.some.injEq] at hm hx har hd
      subst hm hx har hd
      simp only
      have fin : ∀ {τ : Ty} {cs : List Value} {S : Nat → Prop}, τ.frz = m.2.frz → a.eval x = mkV τ cs → rd w S τ d0 cs → (∀ b, S b → Stb C ow w b ∨ (leak = false ∧ ∃ s, ow b = some s ∧ s < C.n ∧ s ∉ ss)) →
          ∃ cs, a.eval x = mkV m.2 cs ∧ rd w (fun b => Stb C ow w b ∨ (leak = false ∧ ∃ s, ow b = some s ∧ s < C.n ∧ s ∉ ss)) m.2 d0 cs := by
        intro τ cs S h1 h2 h3 h4
        exact ⟨cs, by rw [h2, ← mkV_frz τ, h1, mkV_frz], rd_of_eq h1 (rd_mono (fun b hb => ⟨h4 b hb, rfl⟩) _ _ _ h3)⟩
      split at hd0
      · rename_i τ d1
        replace hd0 := bind_guard hd0; obtain ⟨hk, hd0⟩ := hd0
        simp only [Option.some.injEq] at hd0
        subst hd0
        simp only [Bool.and_eq_true, decide_eq_true_eq] at hk
        obtain ⟨hτ, hk⟩ := hk
        cases x with
        | tmp s =>
          simp only [Bool.or_eq_true, Bool.not_eq_true', Bool.and_eq_true] at hk
          obtain ⟨cs, e1, h1⟩ := R.ents s _ he
          rcases hk with hk | ⟨hk1, hk2⟩
          · exact fin hτ e1 (rd_of_rep hk h1) (fun b hb => .inl hb)
          · have hs := R.lt s _ he
            refine fin hτ e1 (look_rd _ _ _ (rep_look _ _ (fun b => ow b = some s) _ _ (fun _ h => h) h1)) (fun b hb => hb.imp id fun hb => ⟨hk1, s, hb, hs, fun hm => ?_⟩)
            rw [List.contains_iff_mem.mpr hm] at hk2; cases hk2
        | const v =>
          simp only [ev, Option.map_eq_some_iff] at he
          obtain ⟨q, hq, he⟩ := he
          obtain ⟨q1, q2⟩ := q
          simp only [Ent.val.injEq] at he
          obtain ⟨rfl, rfl⟩ := he
          obtain ⟨cs, k1, k2, _⟩ := const_look hq w (Stb C ow w) (fun _ => False)
          exact fin hτ k1 (look_rd _ _ _ k2) (fun b hb => .inl (hb.resolve_right fun h => h))
        | func f =>
          simp only [ev, Option.some.injEq, Ent.val.injEq] at he
          obtain ⟨rfl, rfl⟩ := he
          exact fin (cs := [.func (.func f) #[] #[]]) (S := Stb C ow w) hτ rfl ⟨[], rfl, rfl⟩ (fun b hb => .inl hb)
        | global g => cases he
      · rename_i τ d1 r π
        replace hd0 := bind_guard hd0; obtain ⟨hk, hd0⟩ := hd0
        simp only [Option.some.injEq] at hd0
        subst hd0
        simp only [Bool.and_eq_true, decide_eq_true_eq, Bool.not_eq_true'] at hk
        obtain ⟨hτ, hk1, hk2⟩ := hk
        obtain ⟨s, rfl, hF⟩ := ev_pk he
        obtain ⟨cs, e1, h1, _⟩ := R.ents s _ hF
        have hs := R.root s _ _ hF rfl
        refine fin hτ e1 (look_rd _ _ _ h1) (fun b hb => hb.imp id fun hb => ⟨hk1, r, hb, hs, fun hm => ?_⟩)
        rw [List.contains_iff_mem.mpr hm] at hk2; cases hk2
      · cases hd0
      · cases hd0
  | m :: ms, (x, t) :: xs, .tak d0 :: rs, ds, h => by
    simp only [dataE, Option.map_eq_some_iff] at h
    obtain ⟨ds', hds, rfl⟩ := h
    obtain ⟨l1, f1⟩ := dataE_ok R ms xs rs ds' hds
    refine ⟨by simp [l1], fun k m' x' ar' d' hm hx har hd => ?_⟩
    cases k with
    | succ k => simp only [List.getElem?_cons_succ] at hm hx har hd; exact f1 k m' x' ar' d' hm hx har hd
    | zero =>
      simp only [List.getElem?_cons_zero, Option.some.injEq] at hm hx har hd
      subst hm hx har hd
      rfl
  | m :: ms, (x, t) :: xs, .ino r :: rs, ds, h => by
    simp only [dataE] at h
    split at h
    · rename_i τ d0 hF
      replace h := bind_guard h; obtain ⟨hk, h⟩ := h
      have hk := of_decide_eq_true hk
      simp only [Option.map_eq_some_iff] at h
      obtain ⟨ds', hds, rfl⟩ := h
      obtain ⟨l1, f1⟩ := dataE_ok R ms xs rs ds' hds
      refine ⟨by simp [l1], fun k m' x' ar' d' hm hx har hd => ?_⟩
      cases k with
      | succ k => simp only [List.getElem?_cons_succ] at hm hx har hd; exact f1 k m' x' ar' d' hm hx har hd
      | zero =>
        simp only [List.getElem?_cons_zero, Option.some.injEq] at hm hx har hd
        subst hm hx har hd
        simp only
        rw [hF, hk]
    · cases h
  | [], [], _ :: _, _, h => by simp [dataE] at h
  | [], _ :: _, _, _, h => by cases h
  | _ :: _, [], _, _, h => by cases h
  | _ :: _, _ :: _, [], _, h => by cases h


theorem exD_some : ∀ (n : Nat) (k : List D → Prop), exD n k → ∃ ds, ds.length = n ∧ k ds
  | 0, k, h => ⟨[], rfl, h⟩
  | n + 1, k, ⟨d, h⟩ => by
    obtain ⟨ds, h1, h2⟩ := exD_some n (fun ds => k (d :: ds)) h
    exact ⟨d :: ds, by simp [h1], h2⟩

theorem orF_some {o : Option Fr} {K : Fr → Prop} (h : orF o K) : ∃ F, o = some F ∧ K F := by
  cases o with
  | none => exact h.elim
  | some F => exact ⟨F, rfl, h⟩

/-- Several results, as a tuple. -/
theorem res_tup {St : Nat → Prop} {o' : Nat → Option Nat} : ∀ (ts : List Ty) (vs : List Value) (ds : List D) (j : Nat), vs.length = ts.length → ds.length = ts.length →
    (∀ (k : Nat) (t : Ty) (v : Value) (d : D), ts[k]? = some t → vs[k]? = some v → ds[k]? = some d → ∃ cs, v = mkV t cs ∧ rep w St t (fun b => o' b = some (j + k)) d cs) →
    rep w St (tupTy ts) (fun b => ∃ k, k < ts.length ∧ o' b = some (j + k)) (tupD ds) vs
  | [], [], [], _, _, _, _ => rfl
  | t :: ts, v :: vs, d :: ds, j, h1, h2, h => by
    obtain ⟨cs, e1, r1⟩ := h 0 t v d rfl rfl rfl
    have r2 := res_tup ts vs ds (j + 1) (by simpa using h1) (by simpa using h2) (fun k t' v' d' ht hv hd => by
      have := h (k + 1) t' v' d' (by simpa using ht) (by simpa using hv) (by simpa using hd)
      rwa [show j + (k + 1) = j + 1 + k by omega] at this)
    refine ⟨cs, vs, fun b => decide (o' b = some j), by rw [e1], ?_, ?_⟩
    · exact rep_mono (fun _ h => ⟨h, rfl⟩) _ _ _ _ _ (fun b hb => ⟨⟨⟨0, by simp, hb⟩, by simpa using hb⟩, rfl⟩) r1
    · refine rep_mono (fun _ h => ⟨h, rfl⟩) _ _ _ _ _ (fun b hb => ⟨⟨?_, ?_⟩, rfl⟩) r2
      · obtain ⟨k, hk, hb⟩ := hb
        exact ⟨k + 1, by simp; omega, by rw [hb]; congr 1; omega⟩
      · obtain ⟨k, hk, hb⟩ := hb
        show decide (o' b = some j) = false
        rw [hb]
        simp
        omega
  | [], _ :: _, _, _, h, _, _ => by cases h
  | [], [], _ :: _, _, _, h, _ => by cases h
  | _ :: _, [], _, _, h, _, _ => by cases h
  | _ :: _, _ :: _, [], _, _, h, _ => by cases h

/-- What reads nothing that is not its own does not care of what may be read. -/
theorem rd_noreads {S S2 : Nat → Prop} : ∀ (t : Ty) (d : D) (cs : List Value), t.reads = false → t.hasOwn = false → rd w S t d cs → rd w S2 t d cs
  | .int _, _, _, _, _, r => r
  | .bool, _, _, _, _, r => r
  | .str, _, _, _, _, r => r
  | .unit, _, _, _, _, r => r
  | .pair a b, d, cs, h, ho, ⟨c1, c2, e, hn, h1, h2⟩ => by
    simp only [Ty.reads, Ty.hasOwn, Bool.or_eq_false_iff] at h ho
    exact ⟨c1, c2, e, hn, rd_noreads a _ _ h.1 ho.1 h1, rd_noreads b _ _ h.2 ho.2 h2⟩
  | .sl o e, d, cs, h, ho, _ => by simp only [Ty.reads, Ty.hasOwn, Bool.or_eq_false_iff] at h ho; subst ho; simp at h
  | .bx o e, d, cs, h, ho, _ => by simp only [Ty.reads, Ty.hasOwn, Bool.or_eq_false_iff] at h ho; subst ho; simp at h
  | .clo f c, d, cs, h, ho, r => by
    cases c <;> first | exact r | (simp [Ty.reads] at h)
  | .tnil, _, _, _, _, r => r
  | .tcons a b, d, cs, h, ho, ⟨c1, c2, e, h1, h2⟩ => by
    simp only [Ty.reads, Ty.hasOwn, Bool.or_eq_false_iff] at h ho
    exact ⟨c1, c2, e, rd_noreads a _ _ h.1 ho.1 h1, rd_noreads b _ _ h.2 ho.2 h2⟩
  | .gone, _, _, _, _, r => r
  | .hole, _, _, _, _, r => r

theorem rep_noreads {S S2 : Nat → Prop} : ∀ (t : Ty) (O : Nat → Prop) (d : D) (cs : List Value), t.reads = false → rep w S t O d cs → rep w S2 t O d cs
  | .int _, _, _, _, _, r => r
  | .bool, _, _, _, _, r => r
  | .str, _, _, _, _, r => r
  | .unit, _, _, _, _, r => r
  | .pair a b, O, d, cs, h, ⟨c1, c2, f, e, hn, h1, h2⟩ => by
    simp only [Ty.reads, Bool.or_eq_false_iff] at h
    exact ⟨c1, c2, f, e, hn, rep_noreads a _ _ _ h.1 h1, rep_noreads b _ _ _ h.2 h2⟩
  | .sl true e, O, d, cs, h, r => by
    simp only [Ty.reads, Bool.not_true, Bool.false_or] at h
    rcases r with r | ⟨g, o, cap, c, te, e1, e2, hO, hc, hb, hl, f, h1⟩
    · exact .inl r
    · refine .inr ⟨g, o, cap, c, te, e1, e2, hO, hc, hb, hl, f, fun i x hx => ?_⟩
      obtain ⟨cells, hn, hr, hlie⟩ := h1 i x hx
      exact ⟨cells, hn, rep_noreads e _ _ _ h hr, hlie⟩
  | .bx true e, O, d, cs, h, ⟨g, c, te, cells, e1, hO, hc, hz, hn, hr, hl⟩ => by
    simp only [Ty.reads, Bool.not_true, Bool.false_or] at h
    exact ⟨g, c, te, cells, e1, hO, hc, hz, hn, rep_noreads e _ _ _ h hr, hl⟩
  | .sl false e, _, _, _, h, _ => by simp [Ty.reads] at h
  | .bx false e, _, _, _, h, _ => by simp [Ty.reads] at h
  | .clo f c, _, _, _, h, r => by
    cases c <;> first | exact r | (simp [Ty.reads] at h)
  | .tnil, _, _, _, _, r => r
  | .tcons a b, O, d, cs, h, ⟨c1, c2, f, e, h1, h2⟩ => by
    simp only [Ty.reads, Bool.or_eq_false_iff] at h
    exact ⟨c1, c2, f, e, rep_noreads a _ _ _ h.1 h1, rep_noreads b _ _ _ h.2 h2⟩
  | .gone, _, _, _, _, r => r
  | .hole, _, _, _, _, r => r
  | .iter, _, _, _, _, r => r

/-- What a function value captured. -/
theorem capArgs_ok {S : Nat → Prop} : ∀ (c : Ty) (d : D) (cv : List Value) (l : List (Ty × D)), capArgs c d = some l → rd w S c d cv →
    ∃ css : List (List Value), css.length = l.length ∧ cv = css.flatten ∧ ∀ (k : Nat) (t : Ty) (x : D), l[k]? = some (t, x) → ∃ cs, css[k]? = some cs ∧ cs.length = t.size ∧ rd w S t x cs
  | .unit, d, cv, l, h, hr => by
    simp only [capArgs, Option.some.injEq] at h
    subst h
    exact ⟨[], rfl, hr, fun k t x h => by simp at h⟩
  | .pair a b, d, cv, l, h, ⟨c1, c2, e, hn, h1, h2⟩ => by
    simp only [capArgs, Option.map_eq_some_iff] at h
    obtain ⟨l', hl', rfl⟩ := h
    obtain ⟨css, k1, k2, k3⟩ := capArgs_ok b _ _ _ hl' h2
    refine ⟨c1 :: css, by simp [k1], by rw [e, k2]; rfl, fun k t x h => ?_⟩
    cases k with
    | zero => simp at h; obtain ⟨rfl, rfl⟩ := h; exact ⟨c1, rfl, hn, h1⟩
    | succ k => simp only [List.getElem?_cons_succ] at h; exact k3 k t x h
  | .int _, _, _, _, h, _ | .bool, _, _, _, h, _ | .str, _, _, _, h, _ | .sl .., _, _, _, h, _ | .bx .., _, _, _, h, _ | .clo .., _, _, _, h, _ | .tnil, _, _, _, h, _ | .tcons .., _, _, _, h, _ | .gone, _, _, _, h, _ => by simp [capArgs] at h


theorem capsFit_ok : ∀ (ms : List (PM × Ty)) (l : List (Ty × D)), capsFit ms l = true → ms.length = l.length ∧ ∀ (k : Nat) (m : PM × Ty) (t : Ty) (x : D), ms[k]? = some m → l[k]? = some (t, x) → m.1 = .bor ∧ t.frz = m.2.frz ∧ ∃ b e, t = .bx b e
  | [], [], _ => ⟨rfl, fun k m t x h => by simp at h⟩
  | (pm, t) :: ms, (t', x') :: l, h => by
    cases pm <;> cases t' <;> simp only [capsFit, Bool.and_eq_true, decide_eq_true_eq, Bool.false_eq_true] at h
    rename_i b e
    obtain ⟨h1, h2⟩ := h
    obtain ⟨k1, k2⟩ := capsFit_ok ms l h2
    refine ⟨by simp [k1], fun k m t0 x hm hl => ?_⟩
    cases k with
    | zero => simp at hm hl; obtain ⟨rfl, rfl⟩ := hl; subst hm; exact ⟨rfl, h1, _, _, rfl⟩
    | succ k => simp only [List.getElem?_cons_succ] at hm hl; exact k2 k m t0 x hm hl
  | [], _ :: _, h => by simp [capsFit] at h
  | _ :: _, [], h => by rename_i m ms; obtain ⟨pm, t⟩ := m; cases pm <;> simp [capsFit] at h

/-- What the arguments that a call changes hold behind it, laid back. -/
theorem backE_ok : ∀ (ms : List (PM × Ty)) (ars : List AR) (ds : List D) (F F2 : Fr), apart (inoSlots ars) = true → backE F ms ars ds = some F2 →
    ∀ (s : Nat) (e : Ent), F2 s = some e → (∃ (k : Nat) (m : PM × Ty) (d : D), ars[k]? = some (.ino s) ∧ ms[k]? = some m ∧ ds[((inoSlots (ars.take k)).length)]? = some d ∧ e = .val m.2 d) ∨
      (s ∉ inoSlots ars ∧ F s = some e ∧ ∀ r, e.root = some r → r ∉ inoSlots ars)
  | [], [], [], F, F2, _, h, s, e, hs => by
    simp only [backE, Option.some.injEq] at h
    subst h
    exact .inr ⟨by simp [inoSlots], hs, fun r _ => by simp [inoSlots]⟩
  | m :: ms, .bor :: ars, ds, F, F2, ha, h, s, e, hs => by
    simp only [backE] at h
    rcases backE_ok ms ars ds F F2 ha h s e hs with ⟨k, m', d, h1, h2, h3, h4⟩ | h1
    · exact .inl ⟨k + 1, m', d, by simpa using h1, by simpa using h2, by simpa [inoSlots] using h3, h4⟩
    · exact .inr h1
  | m :: ms, .tak d0 :: ars, ds, F, F2, ha, h, s, e, hs => by
    simp only [backE] at h
    rcases backE_ok ms ars ds F F2 ha h s e hs with ⟨k, m', d, h1, h2, h3, h4⟩ | h1
    · exact .inl ⟨k + 1, m', d, by simpa using h1, by simpa using h2, by simpa [inoSlots] using h3, h4⟩
    · exact .inr h1
  | m :: ms, .ino q :: ars, d0 :: ds, F, F2, ha, h, s, e, hs => by
    simp only [backE] at h
    simp only [inoSlots, apart, Bool.and_eq_true, Bool.not_eq_true'] at ha
    rcases backE_ok ms ars ds _ F2 ha.2 h s e hs with ⟨k, m', d, h1, h2, h3, h4⟩ | ⟨h1, h2, h3⟩
    · exact .inl ⟨k + 1, m', d, by simpa using h1, by simpa using h2, by simpa [inoSlots] using h3, h4⟩
    · rcases put_some h2 with ⟨rfl, rfl⟩ | ⟨hne, hF, hr⟩
      · exact .inl ⟨0, m, d0, rfl, rfl, by simp [inoSlots], rfl⟩
      · refine .inr ⟨?_, hF, fun r hr' => ?_⟩
        · simp only [inoSlots, List.mem_cons, not_or]; exact ⟨hne, h1⟩
        · simp only [inoSlots, List.mem_cons, not_or]; exact ⟨fun e => hr (by rw [hr', e]), h3 r hr'⟩
  | _ :: _, .ino _ :: _, [], _, _, _, h, _, _, _ => by simp [backE] at h
  | [], _ :: _, _, _, _, _, h, _, _, _ => by simp [backE] at h
  | _ :: _, [], _, _, _, _, h, _, _, _ => by simp [backE] at h
  | [], [], _ :: _, _, _, _, h, _, _, _ => by simp [backE] at h

theorem ino_take : ∀ (ms : List (PM × Ty)) (ars : List AR) (k : Nat), ars.length = ms.length → (∀ (i : Nat) (m : PM × Ty) (ar : AR), ms[i]? = some m → ars[i]? = some ar → (m.1 = .ino ↔ ∃ r, ar = .ino r)) →
    (inoSlots (ars.take k)).length = inoNo ms k
  | [], [], k, _, _ => by simp [inoSlots, inoNo]
  | m :: ms, ar :: ars, k, hl, h => by
    cases k with
    | zero => simp [inoSlots, inoNo]
    | succ k =>
      have ih := ino_take ms ars k (by simpa using hl) (fun i m' ar' h1 h2 => h (i + 1) m' ar' (by simpa using h1) (by simpa using h2))
      have h0 := h 0 m ar rfl rfl
      unfold inoNo at ih ⊢
      simp only [List.take_succ_cons]
      cases ar with
      | bor =>
        have : ¬ m.1 = .ino := fun e => by obtain ⟨r, hr⟩ := h0.mp e; cases hr
        simp only [inoSlots]
        rw [List.filter_cons_of_neg (by simpa using this)]
        exact ih
      | tak d =>
        have : ¬ m.1 = .ino := fun e => by obtain ⟨r, hr⟩ := h0.mp e; cases hr
        simp only [inoSlots]
        rw [List.filter_cons_of_neg (by simpa using this)]
        exact ih
      | ino r =>
        have : m.1 = .ino := h0.mpr ⟨r, rfl⟩
        simp only [inoSlots]
        rw [List.filter_cons_of_pos (by simpa using this)]
        simp [ih]
  | [], _ :: _, _, h, _ => by cases h
  | _ :: _, [], _, h, _ => by cases h

end
end Go.Pi
