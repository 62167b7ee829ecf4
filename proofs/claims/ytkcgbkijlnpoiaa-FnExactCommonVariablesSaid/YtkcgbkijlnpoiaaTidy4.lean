/- A part of a walk: Tidy4. -/
import Derived.Test.YtkcgbkijlnpoiaaTidy3
namespace Go.Pi.TidyVc
open Go Go.Pi Go.Proofs

theorem s130 (a b : List N) (za zb : Bool) (ha : a.length < 4294967296) : Sat Try.prog S130 130 [eL a za, eL b zb] [.b (decide (a = b))] := v130 (by
  unfold eL
  rw [← r130]
  refine selp (fun h => ?_) (fun h => ?_)
  · have : a ≠ b := by rintro rfl; simp at h
    simp [this]
  · have hl : a.length = b.length := by
      simp at h
      omega
    refine ⟨fun s => ∃ i : Nat, s = [eL a za, eL b zb, .i a.length, .i i] ∧ i ≤ a.length ∧ a.take i = b.take i, fun s => match s with | [_, _, _, i] => a.length - i.toI.toNat | _ => 0, ⟨0, by simp [eL], by simp, by simp⟩, ?_⟩
    rintro s0 s1 s12 s13 ⟨i, hs, hi, ht⟩
    simp only [List.cons.injEq, and_true] at hs
    obtain ⟨rfl, rfl, rfl, rfl⟩ := hs
    simp only [toL_eL, toI_i, List.length_map, Int.toNat_natCast]
    refine selp (fun h => ?_) (fun h => ?_)
    · have hia : i < a.length := by simpa using h
      have hib : i < b.length := by omega
      have w1 : IntKind.i64.wrap ((i : Int) + 1) = ((i + 1 : Nat) : Int) := by rw [wrap_id (by omega) (by omega)]; simp
      rw [getD_eN hia, getD_eN hib, deqN, w1]
      have both : sel (!decide (a[i] = b[i])) ([D.b false] = [D.b (decide (a = b))]) (True ∧ ((∃ i' : Nat, [eL a za, eL b zb, D.i a.length, D.i ((i + 1 : Nat) : Int)] = [eL a za, eL b zb, .i a.length, D.i i'] ∧ i' ≤ a.length ∧ a.take i' = b.take i') ∧ a.length - (i + 1) < a.length - i)) := by
        refine selp (fun h => ?_) (fun h => ?_)
        · have : a ≠ b := by rintro rfl; simp at h
          simp [this]
        · have he : a[i] = b[i] := by simpa using h
          exact ⟨trivial, ⟨i + 1, rfl, by omega, take_step hia hib ht he⟩, by omega⟩
      exact ⟨⟨by omega, by omega⟩, ⟨by omega, by omega⟩, both⟩
    · have hia : i = a.length := by simp at h; omega
      subst hia
      have : a = b := by
        rw [List.take_length, hl, List.take_length] at ht
        exact ht
      simp [this])
theorem s76 (a b : List N) (za zb : Bool) (ha : a.length < 4294967296) : Sat Try.prog S76 76 [eL a za, eL b zb] [.b (decide (a = b))] := v76 (by
  unfold eL
  rw [← r76]
  exact ⟨_, e130 (s130 a b za zb ha), rfl⟩)
theorem s75' (l : List N) (z : Bool) (hl : l.length < 4294967296) : Sat Try.prog S75 75 [eL l z] [.b (decide (l = [(4, 0), (1, 0), (1, 0)]))] := s75 l z (s76 _ _ _ _ hl)

/-- Grow of no slice. -/
theorem s161 (n : Nat) (hn : n < 4294967296) : Sat Try.prog S161 161 [.l [] true, .i n] [.l [] (decide (n = 0))] := v161 (by
  rw [← r161]
  refine selp (fun h => ?_) (fun _ => ?_)
  · simp at h; omega
  · intro c1 _ h1
    have h1 := h1 rfl
    subst h1
    have w0 : IntKind.i64.wrap (((0 : Nat) : Int) - (([] : List D).length : Int)) = 0 := by rw [wrap_id (by simp) (by simp)]; simp
    have w1 : IntKind.i64.wrap ((n : Int) - 0) = n := by rw [wrap_id (by omega) (by omega)]; simp
    rw [w0, w1]
    refine selp (fun h => ?_) (fun h => ?_)
    · intro c2 _ h2
      have h2 := h2 rfl
      subst h2
      have hn0 : n ≠ 0 := by simp at h; omega
      simp [cut, hn0]
      omega
    · have hn0 : n = 0 := by simp at h; omega
      simp [hn0])

def total (qs : List (List N × Bool)) : Nat := (qs.map fun q => q.1.length).sum

theorem total_take (qs : List (List N × Bool)) (i : Nat) (h : i < qs.length) : total (qs.take (i + 1)) = total (qs.take i) + qs[i].1.length := by
  unfold total
  rw [List.take_add_one, List.getElem?_eq_getElem h]
  simp only [Option.toList_some, List.map_append, List.map_cons, List.map_nil, List.sum_append, List.sum_cons, List.sum_nil, Nat.add_zero]

theorem total_le (qs : List (List N × Bool)) (i : Nat) : total (qs.take i) ≤ total qs := by
  conv => rhs; rw [← List.take_append_drop i qs]
  unfold total
  rw [List.map_append, List.sum_append]
  omega

def flat (qs : List (List N × Bool)) : List N := (qs.map fun q => q.1).flatten
theorem flat_take (qs : List (List N × Bool)) (i : Nat) (h : i < qs.length) : flat (qs.take (i + 1)) = flat (qs.take i) ++ qs[i].1 := by
  unfold flat
  rw [List.take_add_one, List.getElem?_eq_getElem h]
  simp only [Option.toList_some, List.map_append, List.map_cons, List.map_nil, List.flatten_append, List.flatten_cons, List.flatten_nil, List.append_nil]
theorem flat_len (qs : List (List N × Bool)) : (flat qs).length = total qs := by
  unfold flat total
  rw [List.length_flatten, List.map_map]
  rfl

theorem getD_eQ {qs : List (List N × Bool)} {i : Nat} (h : i < qs.length) : (qs.map eQ).getD i D.u = eL qs[i].1 qs[i].2 := by
  simp [h, eQ]

theorem s131 (qs : List (List N × Bool)) (z : Bool) (hq : qs.length < 4294967296) (ht : total qs < 4294967296) : Sat Try.prog S131 131 [.l (qs.map eQ) z] [eL (flat qs) (flat qs).isEmpty] := v131 (by
  rw [← r131]
  refine ⟨fun s => ∃ i : Nat, s = [.l (qs.map eQ) z, .i (total (qs.take i)), .l (qs.map eQ) z, .i qs.length, .i i] ∧ i ≤ qs.length, fun s => match s with | [_, _, _, _, i] => qs.length - i.toI.toNat | _ => 0, ⟨0, by simp [total], by omega⟩, ?_⟩
  rintro s0 s3 s9 s10 s11 ⟨i, hs, hi⟩
  simp only [List.cons.injEq, and_true] at hs
  obtain ⟨rfl, rfl, rfl, rfl, rfl⟩ := hs
  simp only [toL_l, toI_i, List.length_map, Int.toNat_natCast]
  refine selp (fun h => ?_) (fun h => ?_)
  · have hil : i < qs.length := by simpa using h
    have w1 : IntKind.i64.wrap ((i : Int) + 1) = ((i + 1 : Nat) : Int) := by rw [wrap_id (by omega) (by omega)]; simp
    have hle := total_le qs (i + 1)
    rw [total_take qs i hil] at hle
    have w2 : IntKind.i64.wrap ((total (qs.take i) : Int) + (qs[i].1.length : Int)) = ((total (qs.take i) + qs[i].1.length : Nat) : Int) := by rw [wrap_id (by omega) (by omega)]; simp
    simp only [getD_eQ hil, toL_eL, List.length_map, w1, w2]
    refine ⟨⟨by omega, by omega⟩, trivial, selp (fun h => ?_) (fun h => ⟨trivial, ⟨i + 1, ?_, by omega⟩, by omega⟩)⟩
    · simp at h; omega
    · rw [total_take qs i hil]
  · have hil : i = qs.length := by simp at h; omega
    subst hil
    rw [List.take_length]
    refine ⟨_, e161 (s161 (total qs) ht), ?_⟩
    refine ⟨fun s => ∃ i : Nat, s = [eL (flat (qs.take i)) (decide (total qs = 0) && (flat (qs.take i)).isEmpty), .l (qs.map eQ) z, .i qs.length, .i i] ∧ i ≤ qs.length, fun s => match s with | [_, _, _, i] => qs.length - i.toI.toNat | _ => 0, ⟨0, by simp [flat, eL], by omega⟩, ?_⟩
    rintro s6 s25 s26 s27 ⟨i, hs, hi⟩
    simp only [List.cons.injEq, and_true] at hs
    obtain ⟨rfl, rfl, rfl, rfl⟩ := hs
    simp only [toL_l, toL_eL, toZ_eL, toI_i, List.length_map, Int.toNat_natCast]
    refine selp (fun h => ?_) (fun h => ?_)
    · have hil : i < qs.length := by simpa using h
      have w1 : IntKind.i64.wrap ((i : Int) + 1) = ((i + 1 : Nat) : Int) := by rw [wrap_id (by omega) (by omega)]; simp
      have hle := total_le qs (i + 1)
      rw [total_take qs i hil] at hle
      have hfl := flat_len (qs.take i)
      rw [getD_eQ hil, toL_eL, List.length_map, w1]
      refine ⟨⟨by omega, by omega⟩, ⟨by omega, by omega⟩, trivial, ⟨i + 1, ?_, by omega⟩, by omega⟩
      rw [flat_take qs i hil]
      simp only [eL, List.map_append, List.cons.injEq, D.l.injEq, true_and, and_true]
      cases decide (total qs = 0) <;> cases flat (qs.take i) <;> cases qs[i].1 <;> simp
    · have hil : i = qs.length := by simp at h; omega
      subst hil
      rw [List.take_length]
      have : decide (total qs = 0) = (flat qs).isEmpty := by
        have := flat_len qs
        cases hf : flat qs with
        | nil => rw [hf] at this; simp at this; simp [← this]
        | cons x r => rw [hf] at this; simp at this; simp; omega
      rw [this, Bool.and_self])

theorem s79 (k : Int) (l : List N) (z : Bool) (m : List N) (y : Bool) (hl : l.length < 1073741824) (hm : m.length < 1073741824) : Sat Try.prog S79 79 [.i k, eL l z, eL m y] [eL ((k, 0) :: (l ++ m)) false] := v79 (by
  unfold eL
  rw [← r79]
  refine ⟨_, e131 (s131 [([(k, 0)], false), (l, z), (m, y)] false (by simp) (by simp [total]; omega)), ?_⟩
  simp [flat, eL])
end Go.Pi.TidyVc
