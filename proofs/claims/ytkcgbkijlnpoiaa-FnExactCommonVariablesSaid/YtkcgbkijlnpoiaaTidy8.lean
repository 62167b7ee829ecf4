/- A part of a walk: Tidy8. -/
import Derived.Test.YtkcgbkijlnpoiaaTidy7
namespace Go.Pi.TidyVc
open Go Go.Pi Go.Proofs

theorem s8 (l : List N) (z : Bool) (n : Int) (hn : 0 ≤ n) (hn2 : n < 4294967296) (hl : l.length ≤ 9223372036854775807) : Sat Try.prog S8 8 [eL l z, .i n] [.i (if n < l.length then -1 else n - l.length)] := v8 (by
  unfold eL
  rw [← r8]
  have w : IntKind.i64.wrap (n - ((l.map eN).length : Int)) = n - l.length := by rw [List.length_map, wrap_id (by omega) (by omega)]
  simp only [w]
  refine selp (fun h => ?_) (fun h => ?_)
  · rw [if_pos (by simp at h; omega)]
  · rw [if_neg (by simp at h; omega)])

theorem set_mid (A B : List D) (x v : D) : (A ++ x :: B).set A.length v = A ++ v :: B := by
  simp

theorem get_mid (A B : List D) (x : D) : (A ++ x :: B).getD A.length D.u = x := by
  simp [List.getD]

theorem s10 (l : List N) (z : Bool) (hl : l.length < 4294967296) : Sat Try.prog S10 10 [eL l z] [eL l false] := v10 (by
  unfold eL
  rw [← r10]
  refine ⟨by rw [List.length_map]; omega, fun s => ∃ i : Nat, s = [eL l z, .l ((l.take i).map eN ++ List.replicate (l.length - i) (eN (0, 0))) false, .i i] ∧ i ≤ l.length, fun s => match s with | [_, _, i] => l.length - i.toI.toNat | _ => 0, ⟨0, by simp [eL, eN], by omega⟩, ?_⟩
  rintro s0 s3 s4 ⟨i, hs, hi⟩
  simp only [List.cons.injEq, and_true] at hs
  obtain ⟨rfl, rfl, rfl⟩ := hs
  simp only [toL_eL, toL_l, toZ_l, toI_i, List.length_map, Int.toNat_natCast]
  refine selp (fun h => ?_) (fun h => ?_)
  · have hil : i < l.length := by simpa using h
    have w1 : IntKind.i64.wrap ((i : Int) + 1) = ((i + 1 : Nat) : Int) := by rw [wrap_id (by omega) (by omega)]; simp
    have hlen : ((l.take i).map eN ++ List.replicate (l.length - i) (eN (0, 0))).length = l.length := by simp; omega
    simp only [getD_eN hil, w1, hlen]
    refine ⟨⟨by omega, by omega⟩, _, e37 (s37 l[i]), ⟨by omega, by omega⟩, by omega, trivial, ⟨i + 1, ?_, by omega⟩, by omega⟩
    have e1 : List.replicate (l.length - i) (eN (0, 0)) = eN (0, 0) :: List.replicate (l.length - (i + 1)) (eN (0, 0)) := by
      rw [show l.length - i = (l.length - (i + 1)) + 1 by omega, List.replicate_succ]
    have e2 : ((l.take i).map eN).length = i := by simp; omega
    have e3 := set_mid ((l.take i).map eN) (List.replicate (l.length - (i + 1)) (eN (0, 0))) (eN (0, 0)) (eN l[i])
    rw [e2] at e3
    rw [e1, e3, List.take_add_one, List.getElem?_eq_getElem hil]
    simp only [Option.toList_some, List.map_append, List.map_cons, List.map_nil, List.append_assoc, List.singleton_append]
  · have hil : i = l.length := by simp at h; omega
    subst hil
    simp)

theorem s12 (a b : List N) (za zb : Bool) (ha : a.length < 4294967296) : Sat Try.prog S12 12 [eL a za, eL b zb] [.b (decide (a = b))] := v12 (by
  unfold eL
  rw [← r12]
  refine selp (fun h => ?_) (fun h => ?_)
  · have : a ≠ b := by rintro rfl; simp at h
    simp [this]
  · have hl : a.length = b.length := by
      simp at h
      omega
    refine ⟨fun s => ∃ i : Nat, s = [eL a za, eL b zb, .i i] ∧ i ≤ a.length ∧ a.take i = b.take i, fun s => match s with | [_, _, i] => a.length - i.toI.toNat | _ => 0, ⟨0, rfl, by simp, by simp⟩, ?_⟩
    rintro s0 s1 s5 ⟨i, hs, hi, ht⟩
    simp only [List.cons.injEq, and_true] at hs
    obtain ⟨rfl, rfl, rfl⟩ := hs
    simp only [toL_eL, toI_i, List.length_map, Int.toNat_natCast]
    refine selp (fun h => ?_) (fun h => ?_)
    · have hia : i < a.length := by simpa using h
      have hib : i < b.length := by omega
      have w1 : IntKind.i64.wrap ((i : Int) + 1) = ((i + 1 : Nat) : Int) := by rw [wrap_id (by omega) (by omega)]; simp
      rw [getD_eN hia, getD_eN hib, w1]
      have both : ∃ r9 : D, E.sat 40 [] [eN a[i], eN b[i]] [r9] ∧ sel (!r9.toB) ([D.b false] = [D.b (decide (a = b))]) (True ∧ ((∃ i' : Nat, [eL a za, eL b zb, D.i ((i + 1 : Nat) : Int)] = [eL a za, eL b zb, D.i i'] ∧ i' ≤ a.length ∧ a.take i' = b.take i') ∧ a.length - (i + 1) < a.length - i)) := by
        refine ⟨_, e40 (s40 a[i] b[i]), selp (fun h => ?_) (fun h => ?_)⟩
        · have : a ≠ b := by rintro rfl; simp [toB_b] at h
          simp [this]
        · have he : a[i] = b[i] := by simpa [toB_b] using h
          exact ⟨trivial, ⟨i + 1, rfl, by omega, take_step hia hib ht he⟩, by omega⟩
      exact ⟨⟨by omega, by omega⟩, ⟨by omega, by omega⟩, both⟩
    · have hia : i = a.length := by simp at h; omega
      subst hia
      have : a = b := by
        rw [List.take_length, hl, List.take_length] at ht
        exact ht
      simp [this])

/-- Nodes that are marked one by one. -/
def marks : Int → Nat → List N
  | _, 0 => []
  | k, n + 1 => (k, k + 1) :: marks (k + 2) n
theorem marks_len : ∀ (n : Nat) (k : Int), (marks k n).length = n
  | 0, _ => rfl
  | n + 1, k => by simp [marks, marks_len n]
theorem marks_get : ∀ (n : Nat) (k : Int) (i : Nat) (h : i < (marks k n).length), (marks k n)[i] = (k + 2 * i, k + 2 * i + 1)
  | 0, k, i, h => by simp [marks] at h
  | n + 1, k, 0, h => by simp [marks]
  | n + 1, k, i + 1, h => by
    have := marks_get n (k + 2) i (by simp [marks] at h; exact h)
    simp only [marks, List.getElem_cons_succ, this]
    congr 1 <;> simp <;> omega

theorem s14 (n : Nat) (k : Int) (z : Bool) (hk : 0 ≤ k) (hk2 : k < 4294967296) (hn : n < 4294967296) : Sat Try.prog S14 14 [eL (marks k n) z, .i k] [.i (k + 2 * n)] := v14 (by
  have hm := marks_len n k
  unfold eL
  rw [← r14]
  refine ⟨fun s => ∃ i : Nat, s = [eL (marks k n) z, .i (k + 2 * i), .i i] ∧ i ≤ n, fun s => match s with | [_, _, i] => n - i.toI.toNat | _ => 0, ⟨0, by simp [eL], by omega⟩, ?_⟩
  rintro s0 s1 s5 ⟨i, hs, hi⟩
  simp only [List.cons.injEq, and_true] at hs
  obtain ⟨rfl, rfl, rfl⟩ := hs
  simp only [toL_eL, toI_i, List.length_map, hm, Int.toNat_natCast]
  refine selp (fun h => ?_) (fun h => ?_)
  · have hil : i < n := by simpa using h
    have hil' : i < (marks k n).length := by omega
    have w1 : IntKind.i64.wrap ((i : Int) + 1) = ((i + 1 : Nat) : Int) := by rw [wrap_id (by omega) (by omega)]; simp
    have w2 : IntKind.i64.wrap (k + 2 * (i : Int) + 1) = k + 2 * i + 1 := wrap_id (by omega) (by omega)
    have w3 : IntKind.i64.wrap (k + 2 * (i : Int) + 1 + 1) = k + 2 * ((i + 1 : Nat) : Int) := by rw [wrap_id (by omega) (by omega)]; omega
    rw [getD_eN hil', marks_get n k i hil']
    simp only [w1, w2, w3, fst_eN, snd_eN, toI_i]
    refine ⟨⟨by omega, by omega⟩, selp (fun h => by simp at h) (fun _ => ⟨trivial, ⟨by omega, by omega⟩, selp (fun h => by simp at h) (fun _ => ⟨trivial, trivial, ⟨i + 1, rfl, by omega⟩, by omega⟩)⟩)⟩
  · have hil : i = n := by simp at h; omega
    subst hil
    rfl)
end Go.Pi.TidyVc
