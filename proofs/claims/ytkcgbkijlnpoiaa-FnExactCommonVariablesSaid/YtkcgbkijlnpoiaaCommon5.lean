/- A part of a walk: texts that are good, sequents, partings. -/
import Derived.Test.YtkcgbkijlnpoiaaCommon4
namespace Go.Pi.CommonVc
open Go Go.Pi Go.Proofs Go.Pi.TidyVc Go.Pi.ForgetVc

abbrev B := ByteArray
theorem wr1 {i : Nat} (h : i < 9223372036854775807) : IntKind.i64.wrap ((i : Int) + 1) = ((i + 1 : Nat) : Int) := by rw [wrap_id (by omega) (by omega)]; simp
theorem getD_s {l : List B} {i : Nat} (h : i < l.length) : (l.map D.s).getD i D.u = .s l[i] := getD_enc h
theorem getD_i {l : List Int} {i : Nat} (h : i < l.length) : (l.map D.i).getD i D.u = .i l[i] := getD_enc h

def goodT (t : B) : B := wrp (parseR t).1.lev 0 (parseR t).1.tx
def good (t : B) : Bool := !parseZ t && ((goodT t).toList == t.toList)
def goodP (t : B) : Bool := good t && plainL (parseL t)

theorem parse_len (t : B) : (parseL t).length ≤ 40 := by
  unfold parseL
  split
  · simp
  · rename_i h
    simp only [not_or] at h
    omega
theorem parse_some {t : B} (h : parseZ t = false) : parseL t = (parseR t).1.enc ∧ parseC t = 0 ∧ (parseR t).1.enc.length ≤ 40 := by
  unfold parseZ at h
  have h := of_decide_eq_false h
  simp only [not_or] at h
  obtain ⟨h1, h2, h3, h4⟩ := h
  unfold parseL parseC
  refine ⟨by rw [if_neg (by simp [h1, h2, h3, h4])], by rw [if_neg h1, if_neg (by simp [h2, h3]), if_neg h4], by omega⟩
theorem parse_none {t : B} (h : parseZ t = true) : parseL t = [] ∧ parseC t ≠ 0 := by
  unfold parseZ at h
  have h := of_decide_eq_true h
  unfold parseL parseC
  refine ⟨if_pos h, ?_⟩
  by_cases h1 : t.size > 200
  · rw [if_pos h1]; simp
  · rw [if_neg h1]
    by_cases h2 : (parseR t).2.2 = true ∨ (parseR t).2.1 < t.size
    · rw [if_pos h2]; simp
    · rw [if_neg h2]
      have h4 : (parseR t).1.enc.length > 40 := by
        rcases h with h | h | h | h
        · exact absurd h h1
        · exact absurd (.inl h) h2
        · exact absurd (.inr h) h2
        · exact h
      rw [if_pos h4]; simp

theorem s175 (f : Fo) (z : Bool) (w : f.wf) (hl : f.enc.length ≤ 100000) : Sat Try.prog S175 175 [eL f.enc z] [.s (wrp f.lev 0 f.tx)] := v175 (by
  unfold eL
  rw [← r175]
  exact ⟨_, e179 (s179 f z 0 w hl), rfl⟩)
theorem s176 (f : Fo) (z : Bool) (w : f.wf) (hl : f.enc.length ≤ 100000) : Sat Try.prog S176 176 [eL f.enc z] [.s (wrp f.lev 0 f.tx)] := v176 (by
  unfold eL
  rw [← r176]
  exact ⟨_, e180 (s180 f z 0 w hl), rfl⟩)

theorem s167 (t : B) : Sat Try.prog S167 167 [.s t] [eL (parseL t) (parseZ t), .b (good t)] := v167 (by
  rw [← r167]
  refine ⟨_, _, _, e174 (s174 t), ?_⟩
  cases hz : parseZ t with
  | true =>
    refine selp (fun h => ?_) (fun _ => ?_)
    · have := (parse_none hz).2
      simp [toI_i, this] at h
    · simp [good, hz]
  | false =>
    obtain ⟨h1, h2, h3⟩ := parse_some hz
    refine selp (fun _ => ?_) (fun h => ?_)
    · have q := s175 (parseR t).1 false parse_goes.2.2.1 (by omega)
      rw [← h1] at q
      refine ⟨_, e175 q, ?_⟩
      simp [good, hz, toS_s, goodT]
    · rw [h2] at h; cases h)
theorem s151 (t : B) : Sat Try.prog S151 151 [.s t] [eL (parseL t) (parseZ t), .b (goodP t)] := v151 (by
  rw [← r151]
  refine ⟨_, _, e167 (s167 t), ?_⟩
  have := parse_len t
  cases hg : good t with
  | true => exact selp (fun _ => ⟨_, e35 (s35 _ _ (by omega)), by simp [goodP, hg, plainL]⟩) (fun h => by cases h)
  | false => exact selp (fun h => by cases h) (fun _ => by simp [goodP, hg]))
theorem s160 (t : B) : Sat Try.prog S160 160 [.s t] [eL (parseL t) (parseZ t)] := v160 (by
  rw [← r160]
  exact ⟨_, _, _, e171 (s171 t), rfl⟩)
theorem s169 (t : B) : Sat Try.prog S169 169 [.s t] [.b (good t)] := v169 (by
  rw [← r169]
  refine ⟨_, e160 (s160 t), ?_⟩
  rw [toZ_eL]
  cases hz : parseZ t with
  | true => exact selp (fun h => by cases h) (fun _ => by simp [good, hz])
  | false =>
    obtain ⟨h1, h2, h3⟩ := parse_some hz
    refine selp (fun _ => ?_) (fun h => by cases h)
    have q := s176 (parseR t).1 false parse_goes.2.2.1 (by omega)
    rw [← h1] at q
    refine ⟨_, e176 q, ?_⟩
    simp [good, hz, toS_s, goodT])
theorem s157 (t : B) : Sat Try.prog S157 157 [.s t] [.b (goodP t)] := v157 (by
  rw [← r157]
  refine ⟨_, e169 (s169 t), ?_⟩
  have := parse_len t
  cases hg : good t with
  | true => exact selp (fun _ => ⟨_, e160 (s160 t), _, e70 (s70 _ _ (by omega)), by simp [goodP, hg]⟩) (fun h => by cases h)
  | false => exact selp (fun h => by cases h) (fun _ => by simp [goodP, hg]))

def encS (xs : List B) (z : Bool) : D := .l (xs.map D.s) z
def encI (xs : List Int) (z : Bool) : D := .l (xs.map D.i) z
def okAt (xs : List B) (i : Nat) : Bool := goodP (xs.getD i ⟨#[]⟩) && (decide (i = 0) || Op.bytesLess (xs.getD (i - 1) ⟨#[]⟩).toList (xs.getD i ⟨#[]⟩).toList)
def leftAll (xs : List B) : Bool := (List.range xs.length).all (okAt xs)
theorem leftAll_true {xs : List B} (h : ∀ j, j < xs.length → okAt xs j = true) : leftAll xs = true := by
  unfold leftAll
  rw [List.all_eq_true]
  exact fun j hj => h j (List.mem_range.mp hj)
theorem leftAll_false {xs : List B} {j : Nat} (hj : j < xs.length) (h : okAt xs j = false) : leftAll xs = false := by
  unfold leftAll
  rw [List.all_eq_false]
  exact ⟨j, List.mem_range.mpr hj, by rw [h]; simp⟩

theorem s152 (xs : List B) (z : Bool) (hl : xs.length < 4294967296) : Sat Try.prog S152 152 [encS xs z] [.b (leftAll xs && decide (xs.length ≤ 12))] := v152 (by
  unfold encS
  rw [← r152]
  refine ⟨fun s => ∃ i : Nat, s = [encS xs z, .i i] ∧ i ≤ xs.length ∧ ∀ j, j < i → okAt xs j = true, fun s => match s with | [_, i] => xs.length - i.toI.toNat | _ => 0, ⟨0, rfl, by omega, fun j hj => by omega⟩, ?_⟩
  rintro s0 s3 ⟨i, hs, hi, hj⟩
  simp only [List.cons.injEq, and_true] at hs
  obtain ⟨rfl, rfl⟩ := hs
  simp only [encS, toL_l, toI_i, Int.toNat_natCast, List.length_map, and_self]
  refine selp (fun h => ?_) (fun h => ?_)
  · have hil : i < xs.length := by have h3 : (i : Int) < xs.length := of_decide_eq_true h; omega
    have hg : xs[i]? = some xs[i] := List.getElem?_eq_getElem hil
    rw [getD_s hil, wr1 (by omega)]
    refine ⟨by omega, _, _, e151 (s151 xs[i]), ?_⟩
    have step : okAt xs i = true → (True ∧ (∃ i_1 : Nat, [D.l (xs.map D.s) z, D.i ((i + 1 : Nat) : Int)] = [D.l (xs.map D.s) z, D.i (i_1 : Int)] ∧ i_1 ≤ xs.length ∧ ∀ j, j < i_1 → okAt xs j = true) ∧ xs.length - (i + 1) < xs.length - i) := fun hok =>
      ⟨trivial, ⟨i + 1, rfl, by omega, fun j hj2 => by
        by_cases hji : j = i
        · subst hji; exact hok
        · exact hj j (by omega)⟩, by omega⟩
    cases hg2 : goodP xs[i] with
    | true =>
      refine selp (fun _ => ?_) (fun h => by cases h)
      by_cases h0 : i = 0
      · subst h0
        refine selp (fun h => by cases h) (fun _ => ?_)
        exact step (by simp [okAt, hg, hg2])
      · have w2 : IntKind.i64.wrap ((i : Int) - 1) = ((i - 1 : Nat) : Int) := by rw [wrap_id (by omega) (by omega)]; omega
        have hg1 : xs[i - 1]? = some xs[i - 1] := List.getElem?_eq_getElem (by omega)
        refine selp (fun _ => ?_) (fun h => ?_)
        · rw [w2]
          simp only [Int.toNat_natCast]
          rw [getD_s (show i - 1 < xs.length by omega)]
          refine ⟨by omega, by omega, ?_⟩
          simp only [toS_s]
          refine selp (fun h => ?_) (fun h => ?_)
          · have hlt : Op.bytesLess xs[i - 1].toList xs[i].toList = false := by simpa using h
            have : okAt xs i = false := by simp [okAt, hg, hg1, hlt, h0]
            simp [leftAll_false hil this]
          · have hlt : Op.bytesLess xs[i - 1].toList xs[i].toList = true := by simpa using h
            exact step (by simp [okAt, hg, hg1, hlt, hg2])
        · rw [beq_true] at h
          have h3 : ¬ ((i : Int) > 0) := of_decide_eq_false h
          omega
    | false =>
      refine selp (fun h => by cases h) (fun _ => ?_)
      have : okAt xs i = false := by simp [okAt, hg, hg2]
      simp [leftAll_false hil this]
  · have hil : i = xs.length := by have h3 : ¬ ((i : Int) < xs.length) := of_decide_eq_false h; omega
    subst hil
    rw [leftAll_true hj]
    simp
    omega)

theorem s168 (xs : List B) (z : Bool) (hl : xs.length < 4294967296) : Sat Try.prog S168 168 [encS xs z] [.b (leftAll xs)] := v168 (by
  unfold encS
  rw [← r168]
  refine ⟨fun s => ∃ i : Nat, s = [encS xs z, encS xs z, .i xs.length, .i i] ∧ i ≤ xs.length ∧ ∀ j, j < i → okAt xs j = true, fun s => match s with | [_, _, _, i] => xs.length - i.toI.toNat | _ => 0, ⟨0, by simp [encS], by omega, fun j hj => by omega⟩, ?_⟩
  rintro s0 s5 s6 s7 ⟨i, hs, hi, hj⟩
  simp only [List.cons.injEq, and_true] at hs
  obtain ⟨rfl, rfl, rfl, rfl⟩ := hs
  simp only [encS, toL_l, toI_i, Int.toNat_natCast, List.length_map, and_self]
  refine selp (fun h => ?_) (fun h => ?_)
  · have hil : i < xs.length := by have h3 : (i : Int) < xs.length := of_decide_eq_true h; omega
    have hg : xs[i]? = some xs[i] := List.getElem?_eq_getElem hil
    rw [getD_s hil, wr1 (by omega)]
    refine ⟨by omega, _, e157 (s157 xs[i]), ?_⟩
    have step : okAt xs i = true → (True ∧ (∃ i_1 : Nat, [D.l (xs.map D.s) z, D.l (xs.map D.s) z, D.i (xs.length : Int), D.i ((i + 1 : Nat) : Int)] = [D.l (xs.map D.s) z, D.l (xs.map D.s) z, D.i (xs.length : Int), D.i (i_1 : Int)] ∧ i_1 ≤ xs.length ∧ ∀ j, j < i_1 → okAt xs j = true) ∧ xs.length - (i + 1) < xs.length - i) := fun hok =>
      ⟨trivial, ⟨i + 1, rfl, by omega, fun j hj2 => by
        by_cases hji : j = i
        · subst hji; exact hok
        · exact hj j (by omega)⟩, by omega⟩
    cases hg2 : goodP xs[i] with
    | true =>
      refine selp (fun _ => ?_) (fun h => by cases h)
      by_cases h0 : i = 0
      · subst h0
        refine selp (fun h => by cases h) (fun _ => ?_)
        exact step (by simp [okAt, hg, hg2])
      · have w2 : IntKind.i64.wrap ((i : Int) - 1) = ((i - 1 : Nat) : Int) := by rw [wrap_id (by omega) (by omega)]; omega
        have hg1 : xs[i - 1]? = some xs[i - 1] := List.getElem?_eq_getElem (by omega)
        refine selp (fun _ => ?_) (fun h => ?_)
        · rw [w2]
          simp only [Int.toNat_natCast]
          rw [getD_s (show i - 1 < xs.length by omega)]
          refine ⟨by omega, ?_⟩
          simp only [toS_s]
          refine selp (fun h => ?_) (fun h => ?_)
          · have hlt : Op.bytesLess xs[i - 1].toList xs[i].toList = false := by simpa using h
            have : okAt xs i = false := by simp [okAt, hg, hg1, hlt, h0]
            simp [leftAll_false hil this]
          · have hlt : Op.bytesLess xs[i - 1].toList xs[i].toList = true := by simpa using h
            exact step (by simp [okAt, hg, hg1, hlt, hg2])
        · rw [beq_true] at h
          have h3 : ¬ ((i : Int) > 0) := of_decide_eq_false h
          omega
    | false =>
      refine selp (fun h => by cases h) (fun _ => ?_)
      have : okAt xs i = false := by simp [okAt, hg, hg2]
      simp [leftAll_false hil this]
  · have hil : i = xs.length := by have h3 : ¬ ((i : Int) < xs.length) := of_decide_eq_false h; omega
    subst hil
    rw [leftAll_true hj])

def seqOk (xs : List B) (r : B) : Bool := (leftAll xs && decide (xs.length ≤ 12)) && goodP r
theorem s110 (xs : List B) (z : Bool) (r : B) (hl : xs.length < 4294967296) : Sat Try.prog S110 110 [encS xs z, .s r] [.b (seqOk xs r)] := v110 (by
  unfold encS
  rw [← r110]
  refine ⟨_, _, e151 (s151 r), ?_⟩
  cases hg : goodP r with
  | true => exact selp (fun _ => ⟨_, e152 (s152 xs z hl), by simp [seqOk, hg]⟩) (fun h => by cases h)
  | false => exact selp (fun h => by cases h) (fun _ => by simp [seqOk, hg]))
theorem s156 (xs : List B) (z : Bool) (hl : xs.length < 4294967296) : Sat Try.prog S156 156 [encS xs z] [.b (leftAll xs && decide (xs.length ≤ 12))] := v156 (by
  unfold encS
  rw [← r156]
  simp only [List.length_map]
  refine selp (fun h => ?_) (fun h => ?_)
  · rw [beq_true] at h
    have h3 : ((xs.length : Int) ≤ 12) := of_decide_eq_true h
    exact ⟨_, e168 (s168 xs z hl), by rw [decide_eq_true (show xs.length ≤ 12 by omega)]; simp⟩
  · rw [beq_true] at h
    have h3 : ¬ ((xs.length : Int) ≤ 12) := of_decide_eq_false h
    rw [decide_eq_false (show ¬ xs.length ≤ 12 by omega)]
    simp)
theorem s116 (xs : List B) (z : Bool) (r : B) (hl : xs.length < 4294967296) : Sat Try.prog S116 116 [encS xs z, .s r] [.b (seqOk xs r)] := v116 (by
  unfold encS
  rw [← r116]
  refine ⟨_, e156 (s156 xs z hl), ?_⟩
  cases hg : (leftAll xs && decide (xs.length ≤ 12)) with
  | true => exact selp (fun _ => ⟨_, e157 (s157 r), by simp [seqOk, hg]⟩) (fun h => by cases h)
  | false => exact selp (fun h => by cases h) (fun _ => by simp [seqOk, hg]))

def in12 (k : Int) : Bool := decide (1 ≤ k) && decide (k ≤ 2)
def partOk (xs : List B) (ps : List Int) : Bool := ps.all in12 && decide (ps.length = xs.length)
theorem s111 (xs : List B) (z : Bool) (ps : List Int) (y : Bool) (hl : xs.length < 4294967296) (hp : ps.length < 4294967296) : Sat Try.prog S111 111 [encS xs z, encI ps y] [.b (partOk xs ps)] := v111 (by
  unfold encS encI
  rw [← r111]
  refine ⟨fun s => ∃ i : Nat, s = [encS xs z, encI ps y, .i i] ∧ i ≤ ps.length ∧ (ps.take i).all in12 = true, fun s => match s with | [_, _, i] => ps.length - i.toI.toNat | _ => 0, ⟨0, rfl, by omega, by simp⟩, ?_⟩
  rintro s0 s1 s5 ⟨i, hs, hi, hj⟩
  simp only [List.cons.injEq, and_true] at hs
  obtain ⟨rfl, rfl, rfl⟩ := hs
  simp only [encS, encI, toL_l, toI_i, Int.toNat_natCast, List.length_map]
  refine selp (fun h => ?_) (fun h => ?_)
  · have hil : i < ps.length := by have h3 : (i : Int) < ps.length := of_decide_eq_true h; omega
    rw [getD_i hil, wr1 (by omega)]
    refine ⟨by omega, _, e80 (s80 ps[i] 1 2), ?_⟩
    cases hk : in12 ps[i] with
    | true =>
      have hk' := hk
      unfold in12 at hk'
      rw [hk']
      refine selp (fun h => by cases h) (fun _ => ⟨trivial, ⟨i + 1, rfl, by omega, ?_⟩, by omega⟩)
      rw [List.take_succ_eq_append_getElem hil, List.all_append, hj]
      simp [hk]
    | false =>
      have hk' := hk
      unfold in12 at hk'
      rw [hk']
      refine selp (fun _ => ?_) (fun h => by cases h)
      have : ps.all in12 = false := by
        rw [List.all_eq_false]
        exact ⟨ps[i], List.getElem_mem hil, by rw [hk]; simp⟩
      simp [partOk, this]
  · have hil : i = ps.length := by have h3 : ¬ ((i : Int) < ps.length) := of_decide_eq_false h; omega
    subst hil
    rw [List.take_length] at hj
    have : ((ps.length : Int) == (xs.length : Int)) = decide (ps.length = xs.length) := by
      by_cases h : ps.length = xs.length
      · simp [h]
      · simp [h]; omega
    rw [this]
    simp [partOk, hj])

theorem s159 (k : Int) : Sat Try.prog S159 159 [.i k] [.b (!in12 k)] := v159 (by
  rw [← r159]
  by_cases h1 : k = 1
  · subst h1; exact selp (fun h => by cases h) (fun _ => rfl)
  · refine selp (fun _ => ?_) (fun h => ?_)
    · by_cases h2 : k = 2
      · subst h2; rfl
      · have : in12 k = false := by simp [in12]; omega
        simp [this, h2]
    · simp [h1] at h)
theorem s170 {α : Type} (enc : α → D) (p : α → Bool) (l : List α) (z : Bool) (hs : ∀ x ∈ l, Sat Try.prog S159 159 [enc x] [.b (p x)]) (hl : l.length < 4294967296) :
    Sat Try.prog S170_159 170 [.l (l.map enc) z, .u] [.i (ix p l 0)] := v170_159 (by
  rw [← r170_159]
  refine ⟨fun s => ∃ i : Nat, s = [.l (l.map enc) z, .u, .i l.length, .i i] ∧ i ≤ l.length ∧ ix p l 0 = ix p (l.drop i) i, fun s => match s with | [_, _, _, i] => l.length - i.toI.toNat | _ => 0, ⟨0, by simp, by omega, by simp⟩, ?_⟩
  rintro s0 s1 s7 s8 ⟨i, hs', hi, ht⟩
  simp only [List.cons.injEq, and_true] at hs'
  obtain ⟨rfl, rfl, rfl, rfl⟩ := hs'
  simp only [toL_l, toI_i, List.length_map, Int.toNat_natCast]
  refine selp (fun h => ?_) (fun h => ?_)
  · have hil : i < l.length := by simpa using h
    have w1 : IntKind.i64.wrap ((i : Int) + 1) = ((i + 1 : Nat) : Int) := by rw [wrap_id (by omega) (by omega)]; simp
    rw [getD_enc hil, w1]
    rw [List.drop_eq_getElem_cons hil, ix] at ht
    refine ⟨⟨by omega, by omega⟩, _, e159 (hs _ (List.getElem_mem hil)), selp (fun h => ?_) (fun h => ⟨trivial, ⟨i + 1, rfl, by omega, ?_⟩, by omega⟩)⟩
    · rw [toB_b] at h
      rw [ht, if_pos h]
    · rw [toB_b] at h
      rw [ht, h]
      simp
  · have hil : i = l.length := by simp at h; omega
    subst hil
    simp [ht, ix])
theorem s158 (ps : List Int) (z : Bool) (hl : ps.length < 4294967296) : Sat Try.prog S158_159 158 [encI ps z, .u] [.b (ps.any fun k => !in12 k)] := v158_159 (by
  unfold encI
  rw [← r158_159]
  refine ⟨_, e170_159 (s170 D.i (fun k => !in12 k) ps z (fun k _ => s159 k) hl), ?_⟩
  rw [toI_i, ← ix_any (fun k => !in12 k) ps 0 (by omega)])
theorem any_not (ps : List Int) (p : Int → Bool) : (!ps.any fun k => !p k) = ps.all p := by
  induction ps with
  | nil => rfl
  | cons a r ih => simp only [List.any_cons, List.all_cons, Bool.not_or, ih, Bool.not_not]
theorem s117 (xs : List B) (z : Bool) (ps : List Int) (y : Bool) (hp : ps.length < 4294967296) : Sat Try.prog S117 117 [encS xs z, encI ps y] [.b (partOk xs ps)] := v117 (by
  unfold encS encI
  rw [← r117]
  simp only [List.length_map]
  have he : ((ps.length : Int) == (xs.length : Int)) = decide (ps.length = xs.length) := by
    by_cases h : ps.length = xs.length
    · simp [h]
    · simp [h]; omega
  rw [he]
  refine selp (fun h => ⟨_, e158_159 (s158 ps y hp), ?_⟩) (fun h => ?_)
  · rw [beq_true] at h
    simp only [partOk, h, Bool.and_true, toB_b]
    congr 2
    exact any_not ps in12
  · rw [beq_true] at h
    simp [partOk, h])

/-- The code of a parted sequent. -/
def seqC (xs : List B) (r : B) (ps : List Int) : Int := if seqOk xs r = true ∧ partOk xs ps = true then 0 else 1
theorem s51 (xs : List B) (z : Bool) (r : B) (ps : List Int) (y : Bool) (hl : xs.length < 4294967296) (hp : ps.length < 4294967296) : Sat Try.prog S51 51 [encS xs z, .s r, encI ps y] [.i (seqC xs r ps)] := v51 (by
  unfold encS encI
  rw [← r51]
  refine ⟨_, e110 (s110 xs z r hl), ?_⟩
  unfold seqC
  cases h1 : seqOk xs r with
  | true =>
    refine selp (fun _ => ⟨_, e111 (s111 xs z ps y hl hp), ?_⟩) (fun h => by cases h)
    cases h2 : partOk xs ps with
    | true => exact selp (fun h => by cases h) (fun _ => rfl)
    | false => exact selp (fun _ => rfl) (fun h => by cases h)
  | false => exact selp (fun h => by cases h) (fun _ => by simp))
theorem s53 (xs : List B) (z : Bool) (r : B) (ps : List Int) (y : Bool) (hl : xs.length < 4294967296) (hp : ps.length < 4294967296) : Sat Try.prog S53 53 [encS xs z, .s r, encI ps y] [.i (seqC xs r ps)] := v53 (by
  unfold encS encI
  rw [← r53]
  refine ⟨_, e116 (s116 xs z r hl), ?_⟩
  unfold seqC
  cases h1 : seqOk xs r with
  | true =>
    refine selp (fun _ => ⟨_, e117 (s117 xs z ps y hp), ?_⟩) (fun h => by cases h)
    cases h2 : partOk xs ps with
    | true => exact selp (fun h => by cases h) (fun _ => rfl)
    | false => exact selp (fun _ => rfl) (fun h => by cases h)
  | false => exact selp (fun h => by cases h) (fun _ => by simp))
end Go.Pi.CommonVc
