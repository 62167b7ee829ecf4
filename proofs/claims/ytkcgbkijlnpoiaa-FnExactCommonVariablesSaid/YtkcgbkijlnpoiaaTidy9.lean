/- A part of a walk: Tidy9. -/
import Derived.Test.YtkcgbkijlnpoiaaTidy8
namespace Go.Pi.TidyVc
open Go Go.Pi Go.Proofs

theorem marks_snoc : ∀ (n : Nat) (k : Int), marks k (n + 1) = marks k n ++ [(k + 2 * n, k + 2 * n + 1)]
  | 0, k => by simp [marks]
  | n + 1, k => by
    rw [marks, marks_snoc n (k + 2), marks]
    simp only [List.cons_append, List.cons.injEq, true_and]
    congr 2
    simp
    omega

theorem s13 (l : List N) (z : Bool) (k : Int) (hk : 0 ≤ k) (hk2 : k < 4294967296) (hl : l.length < 4294967296) : Sat Try.prog S13 13 [eL l z, .i k] [.i (k + 2 * l.length), eL (marks k l.length) z] := v13 (by
  unfold eL
  rw [← r13]
  refine ⟨fun s => ∃ i : Nat, s = [.l ((marks k i).map eN ++ (l.drop i).map eN) z, .i (k + 2 * i), .i i] ∧ i ≤ l.length, fun s => match s with | [_, _, i] => l.length - i.toI.toNat | _ => 0, ⟨0, by simp [marks], by omega⟩, ?_⟩
  rintro s0 s1 s5 ⟨i, hs, hi⟩
  simp only [List.cons.injEq, and_true] at hs
  obtain ⟨rfl, rfl, rfl⟩ := hs
  have hm := marks_len i k
  have hlen : ((marks k i).map eN ++ (l.drop i).map eN).length = l.length := by simp [hm]; omega
  simp only [toL_l, toZ_l, toI_i, Int.toNat_natCast, List.length_set, hlen]
  refine selp (fun h => ?_) (fun h => ?_)
  · have hil : i < l.length := by simpa using h
    have w1 : IntKind.i64.wrap ((i : Int) + 1) = ((i + 1 : Nat) : Int) := by rw [wrap_id (by omega) (by omega)]; simp
    have w2 : IntKind.i64.wrap (k + 2 * (i : Int) + 1) = k + 2 * i + 1 := wrap_id (by omega) (by omega)
    have w3 : IntKind.i64.wrap (k + 2 * (i : Int) + 1 + 1) = k + 2 * ((i + 1 : Nat) : Int) := by rw [wrap_id (by omega) (by omega)]; omega
    simp only [w1, w2, w3]
    have e2 : ((marks k i).map eN).length = i := by simp [hm]
    have g0 := fun x => get_mid ((marks k i).map eN) ((l.drop (i + 1)).map eN) x
    have t0 := fun x v => set_mid ((marks k i).map eN) ((l.drop (i + 1)).map eN) x v
    rw [e2] at g0 t0
    rw [List.drop_eq_getElem_cons hil, List.map_cons]
    simp only [t0, g0]
    refine ⟨⟨by omega, by omega⟩, by omega, trivial, ⟨by omega, by omega⟩, by omega, trivial, trivial, ⟨i + 1, ?_, by omega⟩, by omega⟩
    rw [marks_snoc]
    simp only [List.map_append, List.map_cons, List.map_nil, List.append_assoc, List.singleton_append]
    rfl
  · have hil : i = l.length := by simp at h; omega
    subst hil
    simp)

theorem s3 (l : List N) (z : Bool) (hl : l.length ≤ 9223372036854775807) : Sat Try.prog S3 3 [eL l z] [.b true] := v3 (by
  unfold eL
  rw [← r3]
  have h8 := s8 l z 1048576 (by omega) (by omega) hl
  refine ⟨_, e8 h8, ?_⟩
  by_cases hb : (1048576 : Int) < l.length
  · rw [if_pos hb]
    exact selp (fun _ => rfl) (fun h => by simp [toI_i] at h)
  · rw [if_neg hb]
    refine selp (fun _ => rfl) (fun _ => ?_)
    have hl : l.length < 4294967296 := by omega
    obtain ⟨r, y, c, hr, hs, hi⟩ := out_ok l hl
    have q12 : ∀ (a : List N) (za zb : Bool), a.length < 4294967296 → E.sat 12 [] [eL a za, eL a zb] [.b true] := fun a za zb ha => by
      have := s12 a a za zb ha
      rw [decide_eq_true rfl] at this
      exact e12 this
    have m1 := s13 l false 1 (by omega) (by omega) hl
    have m2 := s13 r y 1 (by omega) (by omega) (by omega)
    have hd := s14 r.length 1 y (by omega) (by omega) (by omega)
    refine ⟨_, e10 (s10 l z hl), _, _, e9 (hs false), _, e10 (s10 l z hl), _, _, e11 hi, _, q12 r y y (by omega), selp (fun _ => selp (fun h => by simp at h) (fun _ => ?_)) (fun h => by simp [toB_b] at h)⟩
    refine ⟨_, e10 (s10 l z hl), _, q12 l false false hl, selp (fun h => by simp [toB_b] at h) (fun _ => ?_)⟩
    have n1 : decide ((1 + 2 * (l.length : Int)) < 0) = false := decide_eq_false (by omega)
    have n2 : decide ((1 + 2 * (r.length : Int)) < 0) = false := decide_eq_false (by omega)
    refine ⟨_, _, e13 m1, selp (fun _ => ?_) (fun h => by rw [toI_i, n1] at h; cases h)⟩
    refine ⟨_, q12 r y y (by omega), selp (fun _ => selp (fun h => by simp at h) (fun _ => ?_)) (fun h => by simp [toB_b] at h)⟩
    refine ⟨_, _, e13 m2, _, e14 hd, selp (fun h => by rw [toI_i, n2] at h; cases h) (fun _ => selp (fun h => by simp at h) (fun _ => ?_))⟩
    refine ⟨_, e10 (s10 l z hl), _, _, e11 hi, _, q12 r y y (by omega), selp (fun _ => selp (fun h => by simp at h) (fun _ => ?_)) (fun h => by simp [toB_b] at h)⟩
    exact ⟨_, e14 hd, selp (fun h => by rw [toI_i, n2] at h; cases h) (fun _ => selp (fun h => by simp at h) (fun _ => rfl))⟩)
end Go.Pi.TidyVc
