/- A part of a walk: the parsers, and what they give for a text. -/
import Derived.Test.YtkcgbkijlnpoiaaCommon2
namespace Go.Pi.CommonVc
open Go Go.Pi Go.Proofs Go.Pi.TidyVc Go.Pi.ForgetVc

theorem pP_lf {t : ByteArray} {n : Nat} {s : St} (v : Nat) (hv : v < 6) (hc : cur t s = some (112 + (v : Int))) : pP t (n + 1) s = (.lf (0, (v : Int)), (s.1 + 1, false)) := by
  rw [pP, hc]
  simp only
  rw [if_pos (by omega)]
  congr 4
  omega
theorem pP_F {t : ByteArray} {n : Nat} {s : St} (hc : cur t s = some 70) : pP t (n + 1) s = (Ff', (s.1 + 1, false)) := by rw [pP, hc]; rfl
theorem pP_T {t : ByteArray} {n : Nat} {s : St} (hc : cur t s = some 84) : pP t (n + 1) s = (Tf', (s.1 + 1, false)) := by rw [pP, hc]; rfl
theorem pP_not {t : ByteArray} {n : Nat} {s : St} (hc : cur t s = some 126) : pP t (n + 1) s = (.nd 4 (pP t n (s.1 + 1, false)).1 Ff', (pP t n (s.1 + 1, false)).2) := by rw [pP, hc]; rfl
theorem pP_box {t : ByteArray} {n : Nat} {s : St} (hc : cur t s = some 91) : pP t (n + 1) s = (.un 5 (pP t n (needS t 93 (s.1 + 1, false))).1, (pP t n (needS t 93 (s.1 + 1, false))).2) := by rw [pP, hc]; rfl
theorem pP_dia {t : ByteArray} {n : Nat} {s : St} (hc : cur t s = some 60) : pP t (n + 1) s = (.un 6 (pP t n (needS t 62 (s.1 + 1, false))).1, (pP t n (needS t 62 (s.1 + 1, false))).2) := by rw [pP, hc]; rfl
theorem pP_par {t : ByteArray} {n : Nat} {s : St} (hc : cur t s = some 40) : pP t (n + 1) s = ((pI t n (s.1 + 1, false)).1, needS t 41 (pI t n (s.1 + 1, false)).2) := by rw [pP, hc]; rfl
theorem pP_bad {t : ByteArray} {n : Nat} {s : St} (hl : ∀ j : Nat, j < 6 → cur t s ≠ some (112 + (j : Int))) (h1 : cur t s ≠ some 70) (h2 : cur t s ≠ some 84) (h3 : cur t s ≠ some 126) (h4 : cur t s ≠ some 91) (h5 : cur t s ≠ some 60)
    (h6 : cur t s ≠ some 40) : pP t (n + 1) s = (Ff', (s.1, true)) := by
  rw [pP]
  cases hc : cur t s with
  | none => rfl
  | some b =>
    rw [hc] at h1 h2 h3 h4 h5 h6
    simp only
    rw [if_neg (fun h => ?_), if_neg (fun h => h1 (by rw [h])), if_neg (fun h => h2 (by rw [h])), if_neg (fun h => h3 (by rw [h])), if_neg (fun h => h4 (by rw [h])), if_neg (fun h => h5 (by rw [h])), if_neg (fun h => h6 (by rw [h]))]
    exact hl (b - 112).toNat (by omega) (by rw [hc]; congr 1; omega)

theorem parse_bad (t : ByteArray) (s : St) : eR t (s.1, true) = .p (eR t s).fst (.p (eR t s).snd.fst (.p (.b true) (eR t s).snd.snd.snd)) := rfl

section
variable {t : ByteArray} (ht : t.size ≤ 200)
include ht

theorem prefix_spec {n : Nat} (ih : Parses t n) (s : St) (hs : s.1 ≤ t.size) (hn : 4 * (t.size - s.1) + 1 ≤ n + 1) : Sat Try.prog S195 195 [eR t s] [eL (pP t (n + 1) s).1.enc false, eR t (pP t (n + 1) s).2] := by
  have ht4 : t.size < 4294967296 := by omega
  refine v195 ?_
  rw [← r195]
  refine ⟨fun l => ∃ v : Nat, l = [eR t s, .s LETT, .i v] ∧ v ≤ 6 ∧ ∀ j : Nat, j < v → cur t s ≠ some (112 + (j : Int)), fun l => match l with | [_, _, v] => 6 - v.toI.toNat | _ => 0, ⟨0, rfl, by omega, fun j hj => by omega⟩, ?_⟩
  rintro x0 x1 x2 ⟨v, hl, hv, hj⟩
  simp only [List.cons.injEq, and_true] at hl
  obtain ⟨rfl, rfl, rfl⟩ := hl
  have hsz : (LETT.size : Int) = 6 := rfl
  simp only [toS_s, toI_i, Int.toNat_natCast]
  refine selp (fun h => ?_) (fun h => ?_)
  · have h3 : (v : Int) < LETT.size := of_decide_eq_true h
    have hv6 : v < 6 := by omega
    refine ⟨⟨by omega, h3⟩, ?_⟩
    rw [lett_at v hv6]
    by_cases hc : cur t s = some (112 + (v : Int))
    · refine ⟨_, _, y188 ht4 hs hc, selp (fun _ => ⟨_, e162 (s162 v), ?_⟩) (fun h => by cases h)⟩
      rw [pP_lf v hv6 hc]
      rfl
    · have w1 : IntKind.i64.wrap ((v : Int) + 1) = ((v + 1 : Nat) : Int) := by rw [wrap_id (by omega) (by omega)]; simp
      refine ⟨_, _, n188 ht4 hs hc, selp (fun h => by cases h) (fun _ => ⟨trivial, ⟨v + 1, by rw [w1], by omega, fun j hj2 => ?_⟩, by rw [w1]; first | omega | (simp; omega)⟩)⟩
      by_cases hjv : j = v
      · subst hjv; exact hc
      · exact hj j (by omega)
  · have h3 : ¬ ((v : Int) < LETT.size) := of_decide_eq_false h
    have hv6 : v = 6 := by omega
    subst hv6
    by_cases h70 : cur t s = some 70
    · refine ⟨_, _, y188 ht4 hs h70, selp (fun _ => ⟨_, e65 s65, ?_⟩) (fun h => by cases h)⟩
      rw [pP_F h70]; rfl
    refine ⟨_, _, n188 ht4 hs h70, selp (fun h => by cases h) (fun _ => ?_)⟩
    by_cases h84 : cur t s = some 84
    · refine ⟨_, _, y188 ht4 hs h84, selp (fun _ => ⟨_, e61 s61, ?_⟩) (fun h => by cases h)⟩
      rw [pP_T h84]; rfl
    refine ⟨_, _, n188 ht4 hs h84, selp (fun h => by cases h) (fun _ => ?_)⟩
    by_cases h126 : cur t s = some 126
    · have hlt := (cur_lt h126).1
      have hq := ih.p (s.1 + 1, false) (by simp only; omega) (by simp only; omega)
      have hl := len_ok ht ((goes_all t n).1 (s.1 + 1, false) (by simp only; omega))
      refine ⟨_, _, y188 ht4 hs h126, selp (fun _ => ⟨_, _, e195 hq.1, _, e123 (s123 _ _ (by omega)), ?_⟩) (fun h => by cases h)⟩
      rw [pP_not h126]; rfl
    refine ⟨_, _, n188 ht4 hs h126, selp (fun h => by cases h) (fun _ => ?_)⟩
    by_cases h91 : cur t s = some 91
    · have hlt := (cur_lt h91).1
      have h9 := needS_le (t := t) (c := 93) (s := (s.1 + 1, false)) (by simp only; omega)
      have h92 := h9.2
      simp only at h92
      have hq := ih.p (needS t 93 (s.1 + 1, false)) h9.1 (by omega)
      have hl := len_ok ht ((goes_all t n).1 (needS t 93 (s.1 + 1, false)) h9.1)
      refine ⟨_, _, y188 ht4 hs h91, selp (fun _ => ⟨_, e196 (s196 t 93 (s.1 + 1, false) ht4 (by simp only; omega)), _, _, e195 hq.1, _, e59 (s59 5 _ _ (by omega)), ?_⟩) (fun h => by cases h)⟩
      rw [pP_box h91]; rfl
    refine ⟨_, _, n188 ht4 hs h91, selp (fun h => by cases h) (fun _ => ?_)⟩
    by_cases h60 : cur t s = some 60
    · have hlt := (cur_lt h60).1
      have h9 := needS_le (t := t) (c := 62) (s := (s.1 + 1, false)) (by simp only; omega)
      have h92 := h9.2
      simp only at h92
      have hq := ih.p (needS t 62 (s.1 + 1, false)) h9.1 (by omega)
      have hl := len_ok ht ((goes_all t n).1 (needS t 62 (s.1 + 1, false)) h9.1)
      refine ⟨_, _, y188 ht4 hs h60, selp (fun _ => ⟨_, e196 (s196 t 62 (s.1 + 1, false) ht4 (by simp only; omega)), _, _, e195 hq.1, _, e59 (s59 6 _ _ (by omega)), ?_⟩) (fun h => by cases h)⟩
      rw [pP_dia h60]; rfl
    refine ⟨_, _, n188 ht4 hs h60, selp (fun h => by cases h) (fun _ => ?_)⟩
    by_cases h40 : cur t s = some 40
    · have hlt := (cur_lt h40).1
      have hq := ih.i (s.1 + 1, false) (by simp only; omega) (by simp only; omega)
      have hg := (goes_all t n).2.2.2.2.2 (s.1 + 1, false) (by simp only; omega)
      refine ⟨_, _, y188 ht4 hs h40, selp (fun _ => ⟨_, _, e183 hq.1, _, e196 (s196 t 41 _ ht4 hg.2.1), ?_⟩) (fun h => by cases h)⟩
      rw [pP_par h40]
    refine ⟨_, _, n188 ht4 hs h40, selp (fun h => by cases h) (fun _ => ⟨trivial, _, e65 s65, ?_⟩)⟩
    rw [pP_bad hj h70 h84 h126 h91 h60 h40]; rfl

theorem atom_impl {n : Nat} (ih : Parses t n) (s : St) (hs : s.1 ≤ t.size) (hn : 4 * (t.size - s.1) + 1 ≤ n + 1) (h126 : cur t s ≠ some 126) (h91 : cur t s ≠ some 91) (h60 : cur t s ≠ some 60) :
    Sat Try.prog S194 194 [eR t s] [eL (pP t (n + 1) s).1.enc false, eR t (pP t (n + 1) s).2] := by
  have ht4 : t.size < 4294967296 := by omega
  refine v194 ?_
  rw [← r194]
  by_cases h70 : cur t s = some 70
  · refine ⟨_, _, y182 ht4 hs h70, selp (fun _ => ⟨_, e87 s87, ?_⟩) (fun h => by cases h)⟩
    rw [pP_F h70]; rfl
  refine ⟨_, _, n182 ht4 hs h70, selp (fun h => by cases h) (fun _ => ?_)⟩
  by_cases h84 : cur t s = some 84
  · refine ⟨_, _, y182 ht4 hs h84, selp (fun _ => ⟨_, e77 s77, ?_⟩) (fun h => by cases h)⟩
    rw [pP_T h84]; rfl
  refine ⟨_, _, n182 ht4 hs h84, selp (fun h => by cases h) (fun _ => ?_)⟩
  by_cases h40 : cur t s = some 40
  · have hlt := (cur_lt h40).1
    have hq := ih.i (s.1 + 1, false) (by simp only; omega) (by simp only; omega)
    have hg := (goes_all t n).2.2.2.2.2 (s.1 + 1, false) (by simp only; omega)
    refine ⟨_, _, y182 ht4 hs h40, selp (fun _ => ⟨_, _, e177 hq.2, _, e192 (s192 t 41 _ ht4 hg.2.1), ?_⟩) (fun h => by cases h)⟩
    rw [pP_par h40]
  refine ⟨_, _, n182 ht4 hs h40, selp (fun h => by cases h) (fun _ => ?_)⟩
  refine ⟨fun l => ∃ v : Nat, l = [eR t s, .p (.s LETT) (.i v)] ∧ v ≤ 6 ∧ ∀ j : Nat, j < v → cur t s ≠ some (112 + (j : Int)), fun l => match l with | [_, v] => 6 - v.snd.toI.toNat | _ => 0, ⟨0, rfl, by omega, fun j hj => by omega⟩, ?_⟩
  rintro x0 x1 ⟨v, hl, hv, hj⟩
  simp only [List.cons.injEq, and_true] at hl
  obtain ⟨rfl, rfl⟩ := hl
  have hsz : LETT.size = 6 := rfl
  simp only [fst_p, snd_p, toS_s, toI_i, Int.toNat_natCast]
  refine selp (fun h => ?_) (fun h => ?_)
  · have h3 : v < LETT.size := of_decide_eq_true h
    have hv6 : v < 6 := by omega
    rw [lett_decode v hv6]
    have w8 : IntKind.u8.wrap (((112 + v, 1) : Nat × Nat).1 : Int) = 112 + (v : Int) := by
      match v, hv6 with
      | 0, _ => rfl
      | 1, _ => rfl
      | 2, _ => rfl
      | 3, _ => rfl
      | 4, _ => rfl
      | 5, _ => rfl
    rw [w8]
    by_cases hc : cur t s = some (112 + (v : Int))
    · refine ⟨_, _, y182 ht4 hs hc, selp (fun _ => ⟨_, e173 (s173 v), ?_⟩) (fun h => by cases h)⟩
      rw [pP_lf v hv6 hc]
      rfl
    · refine ⟨_, _, n182 ht4 hs hc, selp (fun h => by cases h) (fun _ => ⟨⟨v + 1, rfl, by omega, fun j hj2 => ?_⟩, ?_⟩)⟩
      · by_cases hjv : j = v
        · subst hjv; exact hc
        · exact hj j (by omega)
      · simp only [snd_p, toI_i]
        omega
  · have h3 : ¬ (v < LETT.size) := of_decide_eq_false h
    have hv6 : v = 6 := by omega
    subst hv6
    refine ⟨trivial, _, e87 s87, ?_⟩
    rw [pP_bad hj h70 h84 h126 h91 h60 h40]; rfl

theorem prefix_impl {n : Nat} (ih : Parses t n) (s : St) (hs : s.1 ≤ t.size) (hn : 4 * (t.size - s.1) + 1 ≤ n + 1) : Sat Try.prog S189 189 [eR t s] [eL (pP t (n + 1) s).1.enc false, eR t (pP t (n + 1) s).2] := by
  have ht4 : t.size < 4294967296 := by omega
  refine v189 ?_
  rw [← r189]
  by_cases h126 : cur t s = some 126
  · have hlt := (cur_lt h126).1
    have hq := ih.p (s.1 + 1, false) (by simp only; omega) (by simp only; omega)
    have hl := len_ok ht ((goes_all t n).1 (s.1 + 1, false) (by simp only; omega))
    refine ⟨_, _, y182 ht4 hs h126, selp (fun _ => ⟨_, _, e189 hq.2, _, e191 (s191 _ (by omega)), ?_⟩) (fun h => by cases h)⟩
    rw [pP_not h126]; rfl
  refine ⟨_, _, n182 ht4 hs h126, selp (fun h => by cases h) (fun _ => ?_)⟩
  by_cases h91 : cur t s = some 91
  · have hlt := (cur_lt h91).1
    have h9 := needS_le (t := t) (c := 93) (s := (s.1 + 1, false)) (by simp only; omega)
    have h92 := h9.2
    simp only at h92
    have hq := ih.p (needS t 93 (s.1 + 1, false)) h9.1 (by omega)
    have hl := len_ok ht ((goes_all t n).1 (needS t 93 (s.1 + 1, false)) h9.1)
    refine ⟨_, _, y182 ht4 hs h91, selp (fun _ => ⟨_, e192 (s192 t 93 (s.1 + 1, false) ht4 (by simp only; omega)), _, _, e189 hq.2, _, e193 (s193 5 _ (by omega)), ?_⟩) (fun h => by cases h)⟩
    rw [pP_box h91]; rfl
  refine ⟨_, _, n182 ht4 hs h91, selp (fun h => by cases h) (fun _ => ?_)⟩
  by_cases h60 : cur t s = some 60
  · have hlt := (cur_lt h60).1
    have h9 := needS_le (t := t) (c := 62) (s := (s.1 + 1, false)) (by simp only; omega)
    have h92 := h9.2
    simp only at h92
    have hq := ih.p (needS t 62 (s.1 + 1, false)) h9.1 (by omega)
    have hl := len_ok ht ((goes_all t n).1 (needS t 62 (s.1 + 1, false)) h9.1)
    refine ⟨_, _, y182 ht4 hs h60, selp (fun _ => ⟨_, e192 (s192 t 62 (s.1 + 1, false) ht4 (by simp only; omega)), _, _, e189 hq.2, _, e193 (s193 6 _ (by omega)), ?_⟩) (fun h => by cases h)⟩
    rw [pP_dia h60]; rfl
  refine ⟨_, _, n182 ht4 hs h60, selp (fun h => by cases h) (fun _ => ?_)⟩
  exact ⟨_, _, e194 (atom_impl ht ih s hs hn h126 h91 h60), rfl⟩

theorem parses (n : Nat) : Parses t n := by
  induction n using Nat.strongRecOn with
  | ind n ih =>
    cases n with
    | zero => exact ⟨fun s _ h => by omega, fun s _ h => by omega, fun s _ h => by omega, fun s _ h => by omega⟩
    | succ n =>
      have hn := ih n (by omega)
      exact ⟨fun s hs h => ⟨prefix_spec ht hn s hs h, prefix_impl ht hn s hs h⟩, fun s hs h => and_step ht ih s hs h, fun s hs h => or_step ht ih s hs h, fun s hs h => imply_step ht ih s hs h⟩
end

/-- What a text is parsed to: the formula, the place, the code. -/
def parseR (t : ByteArray) : Fo × St := pI t (4 * t.size + 4) (0, false)
def parseL (t : ByteArray) : List N := if t.size > 200 ∨ (parseR t).2.2 = true ∨ (parseR t).2.1 < t.size ∨ (parseR t).1.enc.length > 40 then [] else (parseR t).1.enc
def parseZ (t : ByteArray) : Bool := decide (t.size > 200 ∨ (parseR t).2.2 = true ∨ (parseR t).2.1 < t.size ∨ (parseR t).1.enc.length > 40)
def parseAt (t : ByteArray) : Int := if t.size > 200 then 0 else if (parseR t).2.2 = true ∨ (parseR t).2.1 < t.size then ((parseR t).2.1 : Int) else 0
def parseC (t : ByteArray) : Int := if t.size > 200 then 3 else if (parseR t).2.2 = true ∨ (parseR t).2.1 < t.size then 6 else if (parseR t).1.enc.length > 40 then 3 else 0

theorem parse_goes {t : ByteArray} : Goes t (0, false) (parseR t) := (goes_all t _).2.2.2.2.2 (0, false) (Nat.zero_le _)

theorem s174 (t : ByteArray) : Sat Try.prog S174 174 [.s t] [eL (parseL t) (parseZ t), .i (parseAt t), .i (parseC t)] := v174 (by
  rw [← r174]
  unfold parseL parseZ parseAt parseC
  by_cases h200 : t.size > 200
  · refine selp (fun _ => ?_) (fun h => ?_)
    · simp [h200, eL]
    · have h3 : ¬ ((t.size : Int) > 200) := of_decide_eq_false h
      omega
  · refine selp (fun h => ?_) (fun _ => ?_)
    · have h3 : ((t.size : Int) > 200) := of_decide_eq_true h
      omega
    · have hI := (parses (t := t) (by omega) (4 * t.size + 4)).i (0, false) (Nat.zero_le _) (by simp)
      have q178 : E.sat 178 [] [.s t] (if (parseR t).2.2 = true ∨ (parseR t).2.1 < t.size then [eL [] true, .i (parseR t).2.1] else [eL (parseR t).1.enc false, .i (-1)]) := e178 (v178 (by
        rw [← r178]
        refine ⟨_, _, e183 hI.1, ?_⟩
        change sel ((parseR t).2.2 == false) _ _
        simp only [and_self]
        refine selp (fun h => ?_) (fun h => ?_)
        · have hb : (parseR t).2.2 = false := by simpa using h
          refine selp (fun h => ?_) (fun h => ?_)
          · have hlt : (((parseR t).2.1 : Nat) : Int) < (t.size : Int) := of_decide_eq_true h
            rw [if_pos (.inr (by omega))]
            rfl
          · have hlt : ¬ ((((parseR t).2.1 : Nat) : Int) < (t.size : Int)) := of_decide_eq_false h
            rw [if_neg (by rw [hb]; simp; omega)]
            rfl
        · have hb : (parseR t).2.2 = true := by simpa using h
          rw [if_pos (.inl hb)]
          rfl))
      by_cases hbad : (parseR t).2.2 = true ∨ (parseR t).2.1 < t.size
      · rw [if_pos hbad] at q178
        refine ⟨_, _, q178, selp (fun _ => ?_) (fun h => ?_)⟩
        · have : (t.size > 200 ∨ (parseR t).2.2 = true ∨ (parseR t).2.1 < t.size ∨ (parseR t).1.enc.length > 40) := by
            rcases hbad with h | h
            · exact .inr (.inl h)
            · exact .inr (.inr (.inl h))
          rw [if_pos this, decide_eq_true this, if_neg h200, if_pos hbad, if_neg h200, if_pos hbad]
          rfl
        · have h3 : ¬ ((((parseR t).2.1 : Nat) : Int) ≥ 0) := of_decide_eq_false h
          omega
      · rw [if_neg hbad] at q178
        refine ⟨_, _, q178, selp (fun h => ?_) (fun _ => ?_)⟩
        · have h3 : ((-1 : Int) ≥ 0) := of_decide_eq_true h
          omega
        · simp only [toL_eL, List.length_map]
          rw [if_neg h200, if_neg hbad, if_neg h200, if_neg hbad]
          by_cases h40 : (parseR t).1.enc.length > 40
          · refine selp (fun _ => ?_) (fun h => ?_)
            · have : (t.size > 200 ∨ (parseR t).2.2 = true ∨ (parseR t).2.1 < t.size ∨ (parseR t).1.enc.length > 40) := .inr (.inr (.inr h40))
              rw [if_pos this, decide_eq_true this, if_pos h40]
              rfl
            · have h3 : ¬ ((((parseR t).1.enc.length : Nat) : Int) > 40) := of_decide_eq_false h
              omega
          · refine selp (fun h => ?_) (fun _ => ?_)
            · have h3 : ((((parseR t).1.enc.length : Nat) : Int) > 40) := of_decide_eq_true h
              omega
            · have : ¬ (t.size > 200 ∨ (parseR t).2.2 = true ∨ (parseR t).2.1 < t.size ∨ (parseR t).1.enc.length > 40) := by
                rintro (h | h | h | h)
                · exact h200 h
                · exact hbad (.inl h)
                · exact hbad (.inr h)
                · exact h40 h
              rw [if_neg this, decide_eq_false this, if_neg h40])

theorem s171 (t : ByteArray) : Sat Try.prog S171 171 [.s t] [eL (parseL t) (parseZ t), .i (parseAt t), .i (parseC t)] := v171 (by
  rw [← r171]
  unfold parseL parseZ parseAt parseC
  by_cases h200 : t.size > 200
  · refine selp (fun _ => ?_) (fun h => ?_)
    · simp [h200, eL]
    · have h3 : ¬ ((t.size : Int) > 200) := of_decide_eq_false h
      omega
  · refine selp (fun h => ?_) (fun _ => ?_)
    · have h3 : ((t.size : Int) > 200) := of_decide_eq_true h
      omega
    · have hI := (parses (t := t) (by omega) (4 * t.size + 4)).i (0, false) (Nat.zero_le _) (by simp)
      refine ⟨_, _, e177 hI.2, ?_⟩
      change sel ((parseR t).2.2 == false) _ _
      simp only [and_self]
      rw [if_neg h200, if_neg h200]
      have tail : ((parseR t).2.2 = true ∨ (parseR t).2.1 < t.size) → [D.l [] true, (eR t (parseR t).2).snd.fst, D.i 6] = [eL (if t.size > 200 ∨ (parseR t).2.2 = true ∨ (parseR t).2.1 < t.size ∨ (parseR t).1.enc.length > 40 then [] else (parseR t).1.enc) (decide (t.size > 200 ∨ (parseR t).2.2 = true ∨ (parseR t).2.1 < t.size ∨ (parseR t).1.enc.length > 40)), D.i (if (parseR t).2.2 = true ∨ (parseR t).2.1 < t.size then ((parseR t).2.1 : Int) else 0), D.i (if (parseR t).2.2 = true ∨ (parseR t).2.1 < t.size then 6 else if (parseR t).1.enc.length > 40 then 3 else 0)] := by
        intro hbad
        have : (t.size > 200 ∨ (parseR t).2.2 = true ∨ (parseR t).2.1 < t.size ∨ (parseR t).1.enc.length > 40) := by
          rcases hbad with h | h
          · exact .inr (.inl h)
          · exact .inr (.inr (.inl h))
        rw [if_pos this, decide_eq_true this, if_pos hbad, if_pos hbad]
        rfl
      refine selp (fun h => ?_) (fun h => ?_)
      · have hb : (parseR t).2.2 = false := by simpa using h
        refine selp (fun h => ?_) (fun h => ?_)
        · have hlt : (((parseR t).2.1 : Nat) : Int) < (t.size : Int) := of_decide_eq_true h
          exact tail (.inr (by omega))
        · have hlt : ¬ ((((parseR t).2.1 : Nat) : Int) < (t.size : Int)) := of_decide_eq_false h
          have hbad : ¬ ((parseR t).2.2 = true ∨ (parseR t).2.1 < t.size) := by rw [hb]; simp; omega
          rw [if_neg hbad, if_neg hbad]
          by_cases h40 : (parseR t).1.enc.length > 40
          · refine selp (fun _ => ?_) (fun h => ?_)
            · have : (t.size > 200 ∨ (parseR t).2.2 = true ∨ (parseR t).2.1 < t.size ∨ (parseR t).1.enc.length > 40) := .inr (.inr (.inr h40))
              rw [if_pos this, decide_eq_true this, if_pos h40]
              rfl
            · have h3 : ¬ (((((parseR t).1.enc.map eN).length : Nat) : Int) > 40) := of_decide_eq_false h
              rw [List.length_map] at h3
              omega
          · refine selp (fun h => ?_) (fun _ => ?_)
            · have h3 : (((((parseR t).1.enc.map eN).length : Nat) : Int) > 40) := of_decide_eq_true h
              rw [List.length_map] at h3
              omega
            · have : ¬ (t.size > 200 ∨ (parseR t).2.2 = true ∨ (parseR t).2.1 < t.size ∨ (parseR t).1.enc.length > 40) := by
                rintro (h | h | h | h)
                · exact h200 h
                · exact hbad (.inl h)
                · exact hbad (.inr h)
                · exact h40 h
              rw [if_neg this, decide_eq_false this, if_neg h40]
              rfl
      · have hb : (parseR t).2.2 = true := by simpa using h
        exact tail (.inl hb))
end Go.Pi.CommonVc
