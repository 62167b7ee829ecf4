/- A part of a walk: formulas are parsed from their texts, by the program and by the reference alike. -/
import Derived.Test.YtkcgbkijlnpoiaaCommonVc
import Derived.Test.YtkcgbkijlnpoiaaForget2
namespace Go.Pi.CommonVc
open Go Go.Pi Go.Proofs Go.Pi.TidyVc Go.Pi.ForgetVc

/-- A formula. -/
inductive Fo where
  | lf (n : N)
  | un (k : Int) (a : Fo)
  | nd (k : Int) (a b : Fo)

def Fo.enc : Fo → List N
  | .lf n => [n]
  | .un k a => (k, 0) :: a.enc
  | .nd k a b => (k, 0) :: (a.enc ++ b.enc)

def Fo.wf : Fo → Prop
  | .lf n => (n.1 = 0 ∧ 0 ≤ n.2 ∧ n.2 ≤ 5) ∨ n = (1, 0)
  | .un k a => (k = 5 ∨ k = 6) ∧ a.wf
  | .nd k a b => (k = 2 ∨ k = 3 ∨ k = 4) ∧ a.wf ∧ b.wf

def Ff' : Fo := .lf (1, 0)
def Tf' : Fo := .nd 4 Ff' Ff'

/-- Where a reader stands, and whether it is bad. -/
abbrev St := Nat × Bool
def eR (t : ByteArray) (s : St) : D := .p (.s t) (.p (.i s.1) (.p (.b s.2) .u))

/-- The next byte is c. -/
def tk (t : ByteArray) (c : Int) (s : St) : Bool := !s.2 && (decide (s.1 < t.size) && (byteAt t s.1 == c))
def takeS (t : ByteArray) (c : Int) (s : St) : St := if tk t c s then (s.1 + 1, s.2) else s
def needS (t : ByteArray) (c : Int) (s : St) : St := if tk t c s then (s.1 + 1, s.2) else (s.1, true)

theorem fst_p (x y : D) : (D.p x y).fst = x := rfl
theorem snd_p (x y : D) : (D.p x y).snd = y := rfl
theorem toS_s (x : ByteArray) : (D.s x).toS = x := rfl

theorem s188 (t : ByteArray) (c : Int) (s : St) (ht : t.size < 4294967296) (hs : s.1 ≤ t.size) : Sat Try.prog S188 188 [eR t s, .i c] [.b (tk t c s), eR t (takeS t c s)] := v188 (by
  rw [← r188]
  obtain ⟨p, bad⟩ := s
  simp only at hs
  simp only [and_self, eR, fst_p, snd_p, toS_s, toI_i, toB_b, Int.toNat_natCast, tk, takeS]
  cases bad with
  | true => exact selp (fun h => by cases h) (fun _ => rfl)
  | false =>
    refine selp (fun _ => selp (fun h => ?_) (fun h => ?_)) (fun h => by cases h)
    · have hp : p < t.size := by have := of_decide_eq_true (by simpa using h : decide ((p : Int) < t.size) = true); omega
      have w1 : IntKind.i64.wrap ((p : Int) + 1) = ((p + 1 : Nat) : Int) := by rw [wrap_id (by omega) (by omega)]; simp
      refine ⟨⟨by omega, by omega⟩, selp (fun h2 => ⟨trivial, trivial, ?_⟩) (fun h2 => ?_)⟩
      · simp [hp, h2, w1]
      · simp [hp, h2]
    · have hp : ¬ p < t.size := by rw [beq_true] at h; have h3 : ¬ ((p : Int) < t.size) := of_decide_eq_false h; omega
      simp [hp])

theorem s182 (t : ByteArray) (c : Int) (s : St) (ht : t.size < 4294967296) (hs : s.1 ≤ t.size) : Sat Try.prog S182 182 [eR t s, .i c] [.b (tk t c s), eR t (takeS t c s)] := v182 (by
  rw [← r182]
  obtain ⟨p, bad⟩ := s
  simp only at hs
  simp only [and_self, eR, fst_p, snd_p, toS_s, toI_i, toB_b, Int.toNat_natCast, tk, takeS]
  refine ⟨fun l => l = [eR t (p, false)] ∧ bad = false ∧ p < t.size ∧ byteAt t p = c, ?_, ?_⟩
  · cases bad with
    | true => exact selp (fun h => by cases h) (fun _ => rfl)
    | false =>
      refine selp (fun _ => selp (fun h => ?_) (fun h => ?_)) (fun h => by cases h)
      · have hp : p < t.size := by
          have : ¬ ((t.size : Int) ≤ p) := by simpa using h
          omega
        refine ⟨⟨by omega, by omega⟩, selp (fun h2 => ?_) (fun h2 => ?_)⟩
        · have h2 : ¬ byteAt t p = c := by simpa using h2
          simp [hp, h2]
        · have h2 : byteAt t p = c := by simpa using h2
          exact ⟨rfl, rfl, hp, h2⟩
      · have hp : ¬ p < t.size := by
          have : (t.size : Int) ≤ p := by simpa using h
          omega
        simp [hp]
  · rintro s0 ⟨h, rfl, hp, hc⟩
    simp only [List.cons.injEq, and_true] at h
    subst h
    have w1 : IntKind.i64.wrap ((p : Int) + 1) = ((p + 1 : Nat) : Int) := by rw [wrap_id (by omega) (by omega)]; simp
    refine ⟨trivial, trivial, ?_⟩
    simp [eR, fst_p, snd_p, toI_i, w1, hp, hc])

theorem tk_lt {t : ByteArray} {c : Int} {s : St} (h : tk t c s = true) : s.1 < t.size := by
  unfold tk at h
  simp only [Bool.and_eq_true, decide_eq_true_eq] at h
  exact h.2.1
theorem takeS_le {t : ByteArray} {c : Int} {s : St} (hs : s.1 ≤ t.size) : (takeS t c s).1 ≤ t.size ∧ s.1 ≤ (takeS t c s).1 := by
  unfold takeS
  split
  · rename_i h; have := tk_lt h; simp only; omega
  · exact ⟨hs, Nat.le_refl _⟩
theorem needS_le {t : ByteArray} {c : Int} {s : St} (hs : s.1 ≤ t.size) : (needS t c s).1 ≤ t.size ∧ s.1 ≤ (needS t c s).1 := by
  unfold needS
  split
  · rename_i h; have := tk_lt h; simp only; omega
  · exact ⟨hs, Nat.le_refl _⟩

theorem s196 (t : ByteArray) (c : Int) (s : St) (ht : t.size < 4294967296) (hs : s.1 ≤ t.size) : Sat Try.prog S196 196 [eR t s, .i c] [eR t (needS t c s)] := v196 (by
  rw [← r196]
  refine ⟨_, _, e188 (s188 t c s ht hs), ?_⟩
  unfold needS takeS
  cases h : tk t c s with
  | true => exact selp (fun h => by cases h) (fun _ => by simp)
  | false => exact selp (fun h => ⟨trivial, by simp [eR, fst_p, snd_p]⟩) (fun h => by cases h))
theorem s192 (t : ByteArray) (c : Int) (s : St) (ht : t.size < 4294967296) (hs : s.1 ≤ t.size) : Sat Try.prog S192 192 [eR t s, .i c] [eR t (needS t c s)] := v192 (by
  rw [← r192]
  refine ⟨_, _, e182 (s182 t c s ht hs), ?_⟩
  unfold needS takeS
  cases h : tk t c s with
  | true => exact selp (fun h => by cases h) (fun _ => by simp)
  | false => exact selp (fun h => ⟨trivial, by simp [eR, fst_p, snd_p]⟩) (fun h => by cases h))

/-- The next byte. -/
def cur (t : ByteArray) (s : St) : Option Int := if s.2 = false ∧ s.1 < t.size then some (byteAt t s.1) else none
theorem tk_cur (t : ByteArray) (c : Int) (s : St) : tk t c s = decide (cur t s = some c) := by
  unfold tk cur
  obtain ⟨p, bad⟩ := s
  cases bad
  · by_cases h : p < t.size
    · by_cases h2 : byteAt t p = c <;> simp [h, h2]
    · simp [h]
  · simp
theorem cur_lt {t : ByteArray} {s : St} {c : Int} (h : cur t s = some c) : s.1 < t.size ∧ s.2 = false := by
  unfold cur at h
  split at h
  · rename_i h2; exact ⟨h2.2, h2.1⟩
  · cases h

theorem n188 {t : ByteArray} {c : Int} {s : St} (ht : t.size < 4294967296) (hs : s.1 ≤ t.size) (h : cur t s ≠ some c) : E.sat 188 [] [eR t s, .i c] [.b false, eR t s] := by
  have := s188 t c s ht hs
  have h1 : tk t c s = false := by rw [tk_cur, decide_eq_false h]
  unfold takeS at this
  rw [h1] at this
  exact e188 this
theorem y188 {t : ByteArray} {c : Int} {s : St} (ht : t.size < 4294967296) (hs : s.1 ≤ t.size) (h : cur t s = some c) : E.sat 188 [] [eR t s, .i c] [.b true, eR t (s.1 + 1, false)] := by
  have := s188 t c s ht hs
  have h1 : tk t c s = true := by rw [tk_cur, decide_eq_true h]
  unfold takeS at this
  rw [h1, if_pos rfl, (cur_lt h).2] at this
  exact e188 this
theorem n182 {t : ByteArray} {c : Int} {s : St} (ht : t.size < 4294967296) (hs : s.1 ≤ t.size) (h : cur t s ≠ some c) : E.sat 182 [] [eR t s, .i c] [.b false, eR t s] := by
  have := s182 t c s ht hs
  have h1 : tk t c s = false := by rw [tk_cur, decide_eq_false h]
  unfold takeS at this
  rw [h1] at this
  exact e182 this
theorem y182 {t : ByteArray} {c : Int} {s : St} (ht : t.size < 4294967296) (hs : s.1 ≤ t.size) (h : cur t s = some c) : E.sat 182 [] [eR t s, .i c] [.b true, eR t (s.1 + 1, false)] := by
  have := s182 t c s ht hs
  have h1 : tk t c s = true := by rw [tk_cur, decide_eq_true h]
  unfold takeS at this
  rw [h1, if_pos rfl, (cur_lt h).2] at this
  exact e182 this

/-! ### what is parsed -/
def kindOf (b : Int) : Int := b

mutual
def pP (t : ByteArray) : Nat → St → Fo × St
  | 0, s => (Ff', (s.1, true))
  | n + 1, s => match cur t s with
    | none => (Ff', (s.1, true))
    | some b =>
      if 112 ≤ b ∧ b ≤ 117 then (.lf (0, b - 112), (s.1 + 1, false))
      else if b = 70 then (Ff', (s.1 + 1, false))
      else if b = 84 then (Tf', (s.1 + 1, false))
      else if b = 126 then (.nd 4 (pP t n (s.1 + 1, false)).1 Ff', (pP t n (s.1 + 1, false)).2)
      else if b = 91 then (.un 5 (pP t n (needS t 93 (s.1 + 1, false))).1, (pP t n (needS t 93 (s.1 + 1, false))).2)
      else if b = 60 then (.un 6 (pP t n (needS t 62 (s.1 + 1, false))).1, (pP t n (needS t 62 (s.1 + 1, false))).2)
      else if b = 40 then ((pI t n (s.1 + 1, false)).1, needS t 41 (pI t n (s.1 + 1, false)).2)
      else (Ff', (s.1, true))
def pA (t : ByteArray) : Nat → St → Fo × St
  | 0, s => (Ff', (s.1, true))
  | n + 1, s => lA t n (pP t n s)
def lA (t : ByteArray) : Nat → Fo × St → Fo × St
  | 0, r => r
  | n + 1, r => if cur t r.2 = some 38 then lA t n (.nd 2 r.1 (pP t n (r.2.1 + 1, false)).1, (pP t n (r.2.1 + 1, false)).2) else r
def pO (t : ByteArray) : Nat → St → Fo × St
  | 0, s => (Ff', (s.1, true))
  | n + 1, s => lO t n (pA t n s)
def lO (t : ByteArray) : Nat → Fo × St → Fo × St
  | 0, r => r
  | n + 1, r => if cur t r.2 = some 124 then lO t n (.nd 3 r.1 (pA t n (r.2.1 + 1, false)).1, (pA t n (r.2.1 + 1, false)).2) else r
def pI (t : ByteArray) : Nat → St → Fo × St
  | 0, s => (Ff', (s.1, true))
  | n + 1, s => if cur t (pO t n s).2 = some 62 then (.nd 4 (pO t n s).1 (pI t n ((pO t n s).2.1 + 1, false)).1, (pI t n ((pO t n s).2.1 + 1, false)).2) else pO t n s
end

/-- Where a parser goes. -/
def Goes (t : ByteArray) (s : St) (r : Fo × St) : Prop := s.1 ≤ r.2.1 ∧ r.2.1 ≤ t.size ∧ r.1.wf ∧ r.1.enc.length ≤ 4 * (r.2.1 - s.1) + 1 ∧ 1 ≤ r.1.enc.length

theorem wfF : Ff'.wf := .inr rfl
theorem wfT : Tf'.wf := ⟨.inr (.inr rfl), wfF, wfF⟩

theorem goes_all (t : ByteArray) : ∀ n : Nat, (∀ s : St, s.1 ≤ t.size → Goes t s (pP t n s)) ∧ (∀ s : St, s.1 ≤ t.size → Goes t s (pA t n s)) ∧ (∀ (s : St) (r : Fo × St), s.1 ≤ t.size → Goes t s r → Goes t s (lA t n r)) ∧
    (∀ s : St, s.1 ≤ t.size → Goes t s (pO t n s)) ∧ (∀ (s : St) (r : Fo × St), s.1 ≤ t.size → Goes t s r → Goes t s (lO t n r)) ∧ (∀ s : St, s.1 ≤ t.size → Goes t s (pI t n s)) := by
  intro n
  have fal : ∀ s : St, s.1 ≤ t.size → ∀ b, Goes t s (Ff', (s.1, b)) := fun s hs b => ⟨Nat.le_refl _, hs, wfF, by simp [Ff', Fo.enc], by simp [Ff', Fo.enc]⟩
  induction n with
  | zero => exact ⟨fun s hs => fal s hs _, fun s hs => fal s hs _, fun s r _ h => h, fun s hs => fal s hs _, fun s r _ h => h, fun s hs => fal s hs _⟩
  | succ n ih =>
    obtain ⟨iP, iA, iLA, iO, iLO, iI⟩ := ih
    have bin : ∀ (s : St) (k : Int) (r q : Fo × St), (k = 2 ∨ k = 3 ∨ k = 4) → Goes t s r → r.2.1 < t.size → Goes t (r.2.1 + 1, false) q → Goes t s (.nd k r.1 q.1, q.2) := by
      intro s k r q hk h1 hlt h2
      obtain ⟨a1, a2, a3, a4, a5⟩ := h1
      obtain ⟨b1, b2, b3, b4, b5⟩ := h2
      simp only at b1 b4
      refine ⟨by simp only; omega, b2, ⟨hk, a3, b3⟩, ?_, by simp [Fo.enc]⟩
      simp only [Fo.enc, List.length_cons, List.length_append]
      omega
    have one : ∀ (s : St) (k : Int) (s' : St) (q : Fo × St), (k = 5 ∨ k = 6) → s.1 + 1 ≤ s'.1 → Goes t s' q → Goes t s (.un k q.1, q.2) := by
      intro s k s' q hk h1 h2
      obtain ⟨b1, b2, b3, b4, b5⟩ := h2
      refine ⟨by simp only; omega, b2, ⟨hk, b3⟩, ?_, by simp [Fo.enc]⟩
      simp only [Fo.enc, List.length_cons]
      omega
    refine ⟨fun s hs => ?_, fun s hs => ?_, fun s r hs h => ?_, fun s hs => ?_, fun s r hs h => ?_, fun s hs => ?_⟩
    · unfold pP
      cases hc : cur t s with
      | none => exact fal s hs _
      | some b =>
        have hlt := (cur_lt hc).1
        simp only
        split
        · rename_i hb
          exact ⟨by simp, by simp only; omega, .inl ⟨rfl, by simp only; omega, by simp only; omega⟩, by simp [Fo.enc], by simp [Fo.enc]⟩
        split
        · exact ⟨by simp, by simp only; omega, wfF, by simp [Ff', Fo.enc], by simp [Ff', Fo.enc]⟩
        split
        · exact ⟨by simp, by simp only; omega, wfT, by simp [Tf', Ff', Fo.enc], by simp [Tf', Ff', Fo.enc]⟩
        split
        · obtain ⟨b1, b2, b3, b4, b5⟩ := iP (s.1 + 1, false) (by simp only; omega)
          simp only at b1 b4
          refine ⟨by simp only; omega, b2, ⟨.inr (.inr rfl), b3, wfF⟩, ?_, by simp [Fo.enc]⟩
          simp only [Fo.enc, Ff', List.length_cons, List.length_append, List.length_nil]
          omega
        split
        · have h9 := needS_le (t := t) (c := 93) (s := (s.1 + 1, false)) (by simp only; omega)
          exact one s 5 _ _ (.inl rfl) h9.2 (iP _ h9.1)
        split
        · have h9 := needS_le (t := t) (c := 62) (s := (s.1 + 1, false)) (by simp only; omega)
          exact one s 6 _ _ (.inr rfl) h9.2 (iP _ h9.1)
        split
        · obtain ⟨b1, b2, b3, b4, b5⟩ := iI (s.1 + 1, false) (by simp only; omega)
          have h9 := needS_le (t := t) (c := 41) b2
          simp only at b1 b4
          exact ⟨by simp only; omega, h9.1, b3, by simp only; omega, b5⟩
        · exact fal s hs _
    · unfold pA
      exact iLA s _ hs (iP s hs)
    · unfold lA
      split
      · rename_i hc
        have hlt := (cur_lt hc).1
        exact iLA s _ hs (bin s 2 r _ (.inl rfl) h hlt (iP _ (by simp only; omega)))
      · exact h
    · unfold pO
      exact iLO s _ hs (iA s hs)
    · unfold lO
      split
      · rename_i hc
        have hlt := (cur_lt hc).1
        exact iLO s _ hs (bin s 3 r _ (.inr (.inl rfl)) h hlt (iA _ (by simp only; omega)))
      · exact h
    · unfold pI
      split
      · rename_i hc
        have hlt := (cur_lt hc).1
        exact bin s 4 _ _ (.inr (.inr rfl)) (iO s hs) hlt (iI _ (by simp only; omega))
      · exact iO s hs
end Go.Pi.CommonVc
