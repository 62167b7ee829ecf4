/- A part of a walk: the parsers of the program and of the reference do what the model does. -/
import Derived.Test.YtkcgbkijlnpoiaaCommon1
namespace Go.Pi.CommonVc
open Go Go.Pi Go.Proofs Go.Pi.TidyVc Go.Pi.ForgetVc

theorem s191 (l : List N) (hl : l.length < 1073741824) : Sat Try.prog S191 191 [eL l false] [eL ((4, 0) :: (l ++ [(1, 0)])) false] := v191 (by
  unfold eL
  rw [← r191]
  exact ⟨_, e87 s87, _, e79 (s79 4 l false [(1, 0)] false hl (by simp)), rfl⟩)
theorem s193 (k : Int) (l : List N) (hl : l.length < 1073741824) : Sat Try.prog S193 193 [.i k, eL l false] [eL ((k, 0) :: l) false] := v193 (by
  unfold eL
  rw [← r193]
  have := s131 [([(k, 0)], false), (l, false)] false (by simp) (by simp [total]; omega)
  refine ⟨_, e131 this, ?_⟩
  simp [flat, eL])

/-- The parsers' answers, for fuel n. -/
structure Parses (t : ByteArray) (n : Nat) : Prop where
  p : ∀ s : St, s.1 ≤ t.size → 4 * (t.size - s.1) + 1 ≤ n → Sat Try.prog S195 195 [eR t s] [eL (pP t n s).1.enc false, eR t (pP t n s).2] ∧ Sat Try.prog S189 189 [eR t s] [eL (pP t n s).1.enc false, eR t (pP t n s).2]
  a : ∀ s : St, s.1 ≤ t.size → 4 * (t.size - s.1) + 2 ≤ n → Sat Try.prog S190 190 [eR t s] [eL (pA t n s).1.enc false, eR t (pA t n s).2] ∧ Sat Try.prog S186 186 [eR t s] [eL (pA t n s).1.enc false, eR t (pA t n s).2]
  o : ∀ s : St, s.1 ≤ t.size → 4 * (t.size - s.1) + 3 ≤ n → Sat Try.prog S187 187 [eR t s] [eL (pO t n s).1.enc false, eR t (pO t n s).2] ∧ Sat Try.prog S181 181 [eR t s] [eL (pO t n s).1.enc false, eR t (pO t n s).2]
  i : ∀ s : St, s.1 ≤ t.size → 4 * (t.size - s.1) + 4 ≤ n → Sat Try.prog S183 183 [eR t s] [eL (pI t n s).1.enc false, eR t (pI t n s).2] ∧ Sat Try.prog S177 177 [eR t s] [eL (pI t n s).1.enc false, eR t (pI t n s).2]

def LETT : ByteArray := ⟨#[112, 113, 114, 115, 116, 117]⟩
theorem lett_at (v : Nat) (h : v < 6) : byteAt LETT v = 112 + (v : Int) := by
  match v, h with
  | 0, _ => rfl
  | 1, _ => rfl
  | 2, _ => rfl
  | 3, _ => rfl
  | 4, _ => rfl
  | 5, _ => rfl
theorem lett_decode (v : Nat) (h : v < 6) : Utf8.decode LETT v = (112 + v, 1) := by
  match v, h with
  | 0, _ => rfl
  | 1, _ => rfl
  | 2, _ => rfl
  | 3, _ => rfl
  | 4, _ => rfl
  | 5, _ => rfl

theorem len_ok {t : ByteArray} {s : St} {r : Fo × St} (ht : t.size ≤ 200) (h : Goes t s r) : r.1.enc.length ≤ 801 := by
  obtain ⟨_, h2, _, h4, _⟩ := h
  omega

section
variable {t : ByteArray} (ht : t.size ≤ 200)
include ht

theorem and_step {n : Nat} (ih : ∀ k, k < n + 1 → Parses t k) (s : St) (hs : s.1 ≤ t.size) (hn : 4 * (t.size - s.1) + 2 ≤ n + 1) :
    Sat Try.prog S190 190 [eR t s] [eL (pA t (n + 1) s).1.enc false, eR t (pA t (n + 1) s).2] ∧ Sat Try.prog S186 186 [eR t s] [eL (pA t (n + 1) s).1.enc false, eR t (pA t (n + 1) s).2] := by
  have ht4 : t.size < 4294967296 := by omega
  have g := (goes_all t n).1 s hs
  have p0 := (ih n (by omega)).p s hs (by omega)
  have inv : ∀ (m : Nat) (r : Fo × St), Goes t s r → cur t r.2 = some 38 → 4 * (t.size - r.2.1) + 1 ≤ m → m ≤ n → ∃ m', m = m' + 1 ∧ m' < n + 1 ∧ r.2.1 + 1 ≤ t.size ∧ 4 * (t.size - (r.2.1 + 1)) + 1 ≤ m' ∧
      Goes t s (.nd 2 r.1 (pP t m' (r.2.1 + 1, false)).1, (pP t m' (r.2.1 + 1, false)).2) ∧ 4 * (t.size - (pP t m' (r.2.1 + 1, false)).2.1) + 1 ≤ m' ∧ t.size - (pP t m' (r.2.1 + 1, false)).2.1 < t.size - r.2.1 ∧ (pP t m' (r.2.1 + 1, false)).1.enc.length ≤ 801 := by
    intro m r hg hc hm hmn
    have hlt := (cur_lt hc).1
    obtain ⟨m', rfl⟩ : ∃ m', m = m' + 1 := ⟨m - 1, by omega⟩
    have hq := (goes_all t m').1 (r.2.1 + 1, false) (by simp only; omega)
    have hq' := hq
    obtain ⟨b1, b2, b3, b4, b5⟩ := hq
    obtain ⟨a1, a2, a3, a4, a5⟩ := hg
    simp only at b1 b4
    refine ⟨m', rfl, by omega, by omega, by omega, ⟨by simp only; omega, b2, ⟨.inl rfl, a3, b3⟩, ?_, by simp [Fo.enc]⟩, by omega, by omega, len_ok ht hq'⟩
    simp only [Fo.enc, List.length_cons, List.length_append]
    omega
  constructor
  · refine v190 ?_
    rw [← r190]
    refine ⟨_, _, e195 p0.1, fun l => ∃ (m : Nat) (r : Fo × St), l = [eR t r.2, eL r.1.enc false] ∧ lA t m r = pA t (n + 1) s ∧ Goes t s r ∧ 4 * (t.size - r.2.1) + 1 ≤ m ∧ m ≤ n, fun l => match l with | [q, _] => t.size - q.snd.fst.toI.toNat | _ => 0,
      ⟨n, _, rfl, rfl, g, by have := g.1; omega, Nat.le_refl _⟩, ?_⟩
    rintro x0 x1 ⟨m, r, hl, he, hg, hm, hmn⟩
    simp only [List.cons.injEq, and_true] at hl
    obtain ⟨rfl, rfl⟩ := hl
    by_cases hc : cur t r.2 = some 38
    · obtain ⟨m', rfl, h1, h2, h3, h4, h5, h6, h7⟩ := inv m r hg hc hm hmn
      refine ⟨_, _, y188 ht4 hg.2.1 hc, selp (fun _ => ?_) (fun h => by cases h)⟩
      have hl1 := len_ok ht hg
      refine ⟨_, _, e195 ((ih m' h1).p _ h2 h3).1, _, e66 (s66 2 _ _ _ _ (by omega) (by omega)), ⟨m', _, rfl, ?_, h4, h5, by omega⟩, ?_⟩
      · rw [← he, lA, if_pos hc]
      · simpa [eR, fst_p, snd_p, toI_i] using h6
    · refine ⟨_, _, n188 ht4 hg.2.1 hc, selp (fun h => by cases h) (fun _ => ?_)⟩
      have : lA t m r = r := by cases m with | zero => rfl | succ m => rw [lA, if_neg hc]
      rw [← he, this]
  · refine v186 ?_
    rw [← r186]
    refine ⟨_, _, e189 p0.2, fun l => ∃ (m : Nat) (r : Fo × St), l = [eR t r.2, eL r.1.enc false] ∧ lA t m r = pA t (n + 1) s ∧ Goes t s r ∧ 4 * (t.size - r.2.1) + 1 ≤ m ∧ m ≤ n, fun l => match l with | [q, _] => t.size - q.snd.fst.toI.toNat | _ => 0,
      ⟨n, _, rfl, rfl, g, by have := g.1; omega, Nat.le_refl _⟩, ?_⟩
    rintro x0 x1 ⟨m, r, hl, he, hg, hm, hmn⟩
    simp only [List.cons.injEq, and_true] at hl
    obtain ⟨rfl, rfl⟩ := hl
    by_cases hc : cur t r.2 = some 38
    · obtain ⟨m', rfl, h1, h2, h3, h4, h5, h6, h7⟩ := inv m r hg hc hm hmn
      refine ⟨_, _, y182 ht4 hg.2.1 hc, selp (fun _ => ?_) (fun h => by cases h)⟩
      have hl1 := len_ok ht hg
      refine ⟨_, _, e189 ((ih m' h1).p _ h2 h3).2, _, e79 (s79 2 _ _ _ _ (by omega) (by omega)), ⟨m', _, rfl, ?_, h4, h5, by omega⟩, ?_⟩
      · rw [← he, lA, if_pos hc]
      · simpa [eR, fst_p, snd_p, toI_i] using h6
    · refine ⟨_, _, n182 ht4 hg.2.1 hc, selp (fun h => by cases h) (fun _ => ?_)⟩
      have : lA t m r = r := by cases m with | zero => rfl | succ m => rw [lA, if_neg hc]
      rw [← he, this]

theorem or_step {n : Nat} (ih : ∀ k, k < n + 1 → Parses t k) (s : St) (hs : s.1 ≤ t.size) (hn : 4 * (t.size - s.1) + 3 ≤ n + 1) :
    Sat Try.prog S187 187 [eR t s] [eL (pO t (n + 1) s).1.enc false, eR t (pO t (n + 1) s).2] ∧ Sat Try.prog S181 181 [eR t s] [eL (pO t (n + 1) s).1.enc false, eR t (pO t (n + 1) s).2] := by
  have ht4 : t.size < 4294967296 := by omega
  have g := (goes_all t n).2.1 s hs
  have p0 := (ih n (by omega)).a s hs (by omega)
  have inv : ∀ (m : Nat) (r : Fo × St), Goes t s r → cur t r.2 = some 124 → 4 * (t.size - r.2.1) + 2 ≤ m → m ≤ n → ∃ m', m = m' + 1 ∧ m' < n + 1 ∧ r.2.1 + 1 ≤ t.size ∧ 4 * (t.size - (r.2.1 + 1)) + 2 ≤ m' ∧
      Goes t s (.nd 3 r.1 (pA t m' (r.2.1 + 1, false)).1, (pA t m' (r.2.1 + 1, false)).2) ∧ 4 * (t.size - (pA t m' (r.2.1 + 1, false)).2.1) + 2 ≤ m' ∧ t.size - (pA t m' (r.2.1 + 1, false)).2.1 < t.size - r.2.1 ∧ (pA t m' (r.2.1 + 1, false)).1.enc.length ≤ 801 := by
    intro m r hg hc hm hmn
    have hlt := (cur_lt hc).1
    obtain ⟨m', rfl⟩ : ∃ m', m = m' + 1 := ⟨m - 1, by omega⟩
    have hq := (goes_all t m').2.1 (r.2.1 + 1, false) (by simp only; omega)
    have hq' := hq
    obtain ⟨b1, b2, b3, b4, b5⟩ := hq
    obtain ⟨a1, a2, a3, a4, a5⟩ := hg
    simp only at b1 b4
    refine ⟨m', rfl, by omega, by omega, by omega, ⟨by simp only; omega, b2, ⟨.inr (.inl rfl), a3, b3⟩, ?_, by simp [Fo.enc]⟩, by omega, by omega, len_ok ht hq'⟩
    simp only [Fo.enc, List.length_cons, List.length_append]
    omega
  constructor
  · refine v187 ?_
    rw [← r187]
    refine ⟨_, _, e190 p0.1, fun l => ∃ (m : Nat) (r : Fo × St), l = [eR t r.2, eL r.1.enc false] ∧ lO t m r = pO t (n + 1) s ∧ Goes t s r ∧ 4 * (t.size - r.2.1) + 2 ≤ m ∧ m ≤ n, fun l => match l with | [q, _] => t.size - q.snd.fst.toI.toNat | _ => 0,
      ⟨n, _, rfl, rfl, g, by have := g.1; omega, Nat.le_refl _⟩, ?_⟩
    rintro x0 x1 ⟨m, r, hl, he, hg, hm, hmn⟩
    simp only [List.cons.injEq, and_true] at hl
    obtain ⟨rfl, rfl⟩ := hl
    by_cases hc : cur t r.2 = some 124
    · obtain ⟨m', rfl, h1, h2, h3, h4, h5, h6, h7⟩ := inv m r hg hc hm hmn
      refine ⟨_, _, y188 ht4 hg.2.1 hc, selp (fun _ => ?_) (fun h => by cases h)⟩
      have hl1 := len_ok ht hg
      refine ⟨_, _, e190 ((ih m' h1).a _ h2 h3).1, _, e66 (s66 3 _ _ _ _ (by omega) (by omega)), ⟨m', _, rfl, ?_, h4, h5, by omega⟩, ?_⟩
      · rw [← he, lO, if_pos hc]
      · simpa [eR, fst_p, snd_p, toI_i] using h6
    · refine ⟨_, _, n188 ht4 hg.2.1 hc, selp (fun h => by cases h) (fun _ => ?_)⟩
      have : lO t m r = r := by cases m with | zero => rfl | succ m => rw [lO, if_neg hc]
      rw [← he, this]
  · refine v181 ?_
    rw [← r181]
    refine ⟨_, _, e186 p0.2, fun l => ∃ (m : Nat) (r : Fo × St), l = [eR t r.2, eL r.1.enc false] ∧ lO t m r = pO t (n + 1) s ∧ Goes t s r ∧ 4 * (t.size - r.2.1) + 2 ≤ m ∧ m ≤ n, fun l => match l with | [q, _] => t.size - q.snd.fst.toI.toNat | _ => 0,
      ⟨n, _, rfl, rfl, g, by have := g.1; omega, Nat.le_refl _⟩, ?_⟩
    rintro x0 x1 ⟨m, r, hl, he, hg, hm, hmn⟩
    simp only [List.cons.injEq, and_true] at hl
    obtain ⟨rfl, rfl⟩ := hl
    by_cases hc : cur t r.2 = some 124
    · obtain ⟨m', rfl, h1, h2, h3, h4, h5, h6, h7⟩ := inv m r hg hc hm hmn
      refine ⟨_, _, y182 ht4 hg.2.1 hc, selp (fun _ => ?_) (fun h => by cases h)⟩
      have hl1 := len_ok ht hg
      refine ⟨_, _, e186 ((ih m' h1).a _ h2 h3).2, _, e79 (s79 3 _ _ _ _ (by omega) (by omega)), ⟨m', _, rfl, ?_, h4, h5, by omega⟩, ?_⟩
      · rw [← he, lO, if_pos hc]
      · simpa [eR, fst_p, snd_p, toI_i] using h6
    · refine ⟨_, _, n182 ht4 hg.2.1 hc, selp (fun h => by cases h) (fun _ => ?_)⟩
      have : lO t m r = r := by cases m with | zero => rfl | succ m => rw [lO, if_neg hc]
      rw [← he, this]

theorem imply_step {n : Nat} (ih : ∀ k, k < n + 1 → Parses t k) (s : St) (hs : s.1 ≤ t.size) (hn : 4 * (t.size - s.1) + 4 ≤ n + 1) :
    Sat Try.prog S183 183 [eR t s] [eL (pI t (n + 1) s).1.enc false, eR t (pI t (n + 1) s).2] ∧ Sat Try.prog S177 177 [eR t s] [eL (pI t (n + 1) s).1.enc false, eR t (pI t (n + 1) s).2] := by
  have ht4 : t.size < 4294967296 := by omega
  have g := (goes_all t n).2.2.2.1 s hs
  have p0 := (ih n (by omega)).o s hs (by omega)
  have hl1 := len_ok ht g
  by_cases hc : cur t (pO t n s).2 = some 62
  · have hlt := (cur_lt hc).1
    have hg1 := g.1
    have hI := (ih n (by omega)).i ((pO t n s).2.1 + 1, false) (by simp only; omega) (by simp only; omega)
    have hl2 := len_ok ht ((goes_all t n).2.2.2.2.2 ((pO t n s).2.1 + 1, false) (by simp only; omega))
    rw [pI, if_pos hc]
    constructor
    · refine v183 ?_
      rw [← r183]
      refine ⟨_, _, e187 p0.1, _, _, y188 ht4 g.2.1 hc, selp (fun _ => ?_) (fun h => by cases h)⟩
      exact ⟨_, _, e183 hI.1, _, e66 (s66 4 _ _ _ _ (by omega) (by omega)), rfl⟩
    · refine v177 ?_
      rw [← r177]
      refine ⟨_, _, e181 p0.2, _, _, y182 ht4 g.2.1 hc, selp (fun _ => ?_) (fun h => by cases h)⟩
      exact ⟨_, _, e177 hI.2, _, e79 (s79 4 _ _ _ _ (by omega) (by omega)), rfl⟩
  · rw [pI, if_neg hc]
    constructor
    · refine v183 ?_
      rw [← r183]
      exact ⟨_, _, e187 p0.1, _, _, n188 ht4 g.2.1 hc, selp (fun h => by cases h) (fun _ => rfl)⟩
    · refine v177 ?_
      rw [← r177]
      exact ⟨_, _, e181 p0.2, _, _, n182 ht4 g.2.1 hc, selp (fun h => by cases h) (fun _ => rfl)⟩

end
end Go.Pi.CommonVc
