/- A part of a walk: substitutions, and what ForgetClassically and WeakenClassically return. -/
import Derived.Test.YtkcgbkijlnpoiaaForgetVc
import Derived.Test.YtkcgbkijlnpoiaaTidy9
namespace Go.Pi.ForgetVc
open Go Go.Pi Go.Proofs Go.Pi.TidyVc

theorem s162 (v : Int) : Sat Try.prog S162 162 [.i v] [eL [(0, v)] false] := v162 (by rw [← r162]; rfl)
theorem s173 (v : Int) : Sat Try.prog S173 173 [.i v] [eL [(0, v)] false] := v173 (by rw [← r173]; rfl)
theorem s87 : Sat Try.prog S87 87 [] [eL [(1, 0)] false] := v87 (by rw [← r87]; rfl)

/-- The first i variables. -/
def vars (i : Nat) : List (List N × Bool) := (List.range i).map fun (j : Nat) => ([(0, (j : Int))], false)
theorem vars_len (i : Nat) : (vars i).length = i := by simp [vars]
theorem vars_succ (i : Nat) : vars (i + 1) = vars i ++ [([(0, (i : Int))], false)] := by simp [vars, List.range_succ]

theorem s132 : Sat Try.prog S132 132 [] [.l ((vars 6).map eQ) false] := v132 (by
  rw [← r132]
  refine ⟨fun s => ∃ i : Nat, s = [.l ((vars i).map eQ) false, .i i] ∧ i ≤ 6, fun s => match s with | [_, i] => 6 - i.toI.toNat | _ => 0, ⟨0, by simp [vars], by omega⟩, ?_⟩
  rintro s1 s2 ⟨i, hs, hi⟩
  simp only [List.cons.injEq, and_true] at hs
  obtain ⟨rfl, rfl⟩ := hs
  simp only [toL_l, toI_i, toZ_l]
  refine selp (fun h => ?_) (fun h => ?_)
  · have hil : i < 6 := by have := of_decide_eq_true h; omega
    have w1 : IntKind.i64.wrap ((i : Int) + 1) = ((i + 1 : Nat) : Int) := by rw [wrap_id (by omega) (by omega)]; simp
    refine ⟨_, e162 (s162 i), ⟨by simp [vars_len]; omega, by simp [vars_len]; omega⟩, trivial, ⟨i + 1, ?_, by omega⟩, by rw [w1]; simp; omega⟩
    rw [w1, vars_succ]
    simp [eQ]
  · have : i = 6 := by have := of_decide_eq_false h; omega
    subst this
    rfl)

theorem s164 : Sat Try.prog S164 164 [] [.l ((vars 6).map eQ) false] := v164 (by
  rw [← r164]
  refine ⟨fun s => ∃ i : Nat, s = [.l ((vars i).map eQ) (decide (i = 0)), .i i] ∧ i ≤ 6, fun s => match s with | [_, i] => 6 - i.toI.toNat | _ => 0, ⟨0, by simp [vars], by omega⟩, ?_⟩
  rintro s1 s2 ⟨i, hs, hi⟩
  simp only [List.cons.injEq, and_true] at hs
  obtain ⟨rfl, rfl⟩ := hs
  simp only [toL_l, toI_i, toZ_l]
  refine selp (fun h => ?_) (fun h => ?_)
  · have hil : i < 6 := by have := of_decide_eq_true h; omega
    have w1 : IntKind.i64.wrap ((i : Int) + 1) = ((i + 1 : Nat) : Int) := by rw [wrap_id (by omega) (by omega)]; simp
    refine ⟨_, e173 (s173 i), ⟨by simp [vars_len]; omega, by simp [vars_len]; omega⟩, trivial, ⟨i + 1, ?_, by omega⟩, by rw [w1]; simp; omega⟩
    rw [w1, vars_succ]
    simp [eQ]
  · have : i = 6 := by have := of_decide_eq_false h; omega
    subst this
    rfl)

/-- The substitution that maps v to b. -/
def bnd (v : Int) (b : List N) : List (List N × Bool) := (vars 6).set v.toNat (b, false)
theorem bnd_len (v : Int) (b : List N) : (bnd v b).length = 6 := by simp [bnd, vars_len]

theorem s82 (v : Int) (b : List N) (hv : 0 ≤ v) (hv2 : v ≤ 5) (hb : b.length < 4294967296) : Sat Try.prog S82 82 [.i v, eL b false] [.l ((bnd v b).map eQ) false] := v82 (by
  unfold eL
  rw [← r82]
  refine ⟨_, e132 s132, _, e62 (s62 b false hb), ⟨hv, by simp [toL_l, vars_len]; omega⟩, by simp [toL_l, vars_len]; omega, ?_⟩
  simp [toL_l, toZ_l, bnd, eQ, List.map_set])

theorem s134 (v : Int) (b : List N) (hv : 0 ≤ v) (hv2 : v ≤ 5) : Sat Try.prog S134 134 [.i v, eL b false] [.l ((bnd v b).map eQ) false] := v134 (by
  unfold eL
  rw [← r134]
  refine ⟨_, e164 s164, ⟨hv, by simp [toL_l, vars_len]; omega⟩, by simp [toL_l, vars_len]; omega, ?_⟩
  simp [toL_l, toZ_l, bnd, eQ, List.map_set, eL])

/-- What becomes of one node. -/
def img (qs : List (List N × Bool)) (n : N) : List N := if n.1 = 0 then (qs.getD n.2.toNat ([], false)).1 else [n]

theorem flat_step {l : List N} {i : Nat} (h : i < l.length) (f : N → List N) : (l.take (i + 1)).flatMap f = (l.take i).flatMap f ++ f l[i] := by
  rw [List.take_succ_eq_append_getElem h, List.flatMap_append]
  simp

theorem flat_le (f : N → List N) : ∀ (l : List N), (∀ n ∈ l, (f n).length ≤ 3) → (l.flatMap f).length ≤ 3 * l.length
  | [], _ => by simp
  | n :: l, h => by
    have h1 := h n (by simp)
    have h2 := flat_le f l (fun m hm => h m (by simp [hm]))
    simp only [List.flatMap_cons, List.length_append, List.length_cons]
    omega

theorem img_var {qs : List (List N × Bool)} {n : N} (h : n.1 = 0) (hn : n.2.toNat < qs.length) : (qs.map eQ).getD n.2.toNat D.u = eL (img qs n) qs[n.2.toNat].2 := by
  rw [getD_eQ hn]
  unfold img
  rw [if_pos h]
  simp [List.getD, List.getElem?_eq_getElem hn]

theorem s81 (l : List N) (z : Bool) (qs : List (List N × Bool)) (y : Bool) (hl : l.length < 1073741824) (hq : ∀ n ∈ l, n.1 = 0 → 0 ≤ n.2 ∧ n.2 < qs.length) (h3 : ∀ n ∈ l, (img qs n).length ≤ 3) :
    Sat Try.prog S81 81 [eL l z, .l (qs.map eQ) y] [eL (l.flatMap (img qs)) false] := v81 (by
  unfold eL
  rw [← r81]
  refine ⟨fun s => ∃ i : Nat, s = [eL l z, .l (qs.map eQ) y, eL ((l.take i).flatMap (img qs)) false, .i i] ∧ i ≤ l.length, fun s => match s with | [_, _, _, i] => l.length - i.toI.toNat | _ => 0, ⟨0, by simp [eL], by omega⟩, ?_⟩
  rintro s0 s1 s5 s6 ⟨i, hs, hi⟩
  simp only [List.cons.injEq, and_true] at hs
  obtain ⟨rfl, rfl, rfl, rfl⟩ := hs
  simp only [toL_eL, toL_l, toI_i, toZ_eL, List.length_map, Int.toNat_natCast]
  refine selp (fun h => ?_) (fun h => ?_)
  · have hil : i < l.length := by simpa using h
    have hm : l[i] ∈ l := List.getElem_mem hil
    have w1 : IntKind.i64.wrap ((i : Int) + 1) = ((i + 1 : Nat) : Int) := by rw [wrap_id (by omega) (by omega)]; simp
    have hf : ((l.take i).flatMap (img qs)).length ≤ 3 * l.length := by
      have := flat_le (img qs) (l.take i) (fun n hn => h3 n (List.mem_of_mem_take hn))
      have : (l.take i).length ≤ l.length := by simp; omega
      omega
    have h3' := h3 _ hm
    simp only [getD_eN hil, fst_eN, snd_eN, toI_i, w1]
    refine ⟨by omega, selp (fun hk => ?_) (fun hk => ?_)⟩
    · have hk : l[i].1 = 0 := by simpa using hk
      obtain ⟨b1, b2⟩ := hq _ hm hk
      have hb : l[i].2.toNat < qs.length := by omega
      rw [img_var hk hb, toL_eL]
      refine ⟨by omega, ⟨b1, b2⟩, ?_⟩
      simp only [List.length_map]
      refine ⟨⟨by omega, by omega⟩, trivial, ⟨i + 1, ?_, by omega⟩, by simp; omega⟩
      rw [flat_step hil]
      simp [eL]
    · have hk : l[i].1 ≠ 0 := by simpa using hk
      simp only [List.length_cons, List.length_nil]
      refine ⟨by omega, ⟨by omega, by omega⟩, trivial, ⟨i + 1, ?_, by omega⟩, by simp; omega⟩
      rw [flat_step hil]
      simp [eL, img, hk]
  · have : i = l.length := by simp at h; omega
    subst this
    simp [eL])

theorem s172 (l : List N) (z : Bool) (qs : List (List N × Bool)) (y : Bool) (hl : l.length < 1073741824) (hq : ∀ n ∈ l, n.1 = 0 → 0 ≤ n.2 ∧ n.2 < qs.length) (h3 : ∀ n ∈ l, (img qs n).length ≤ 3) :
    Sat Try.prog S172 172 [eL l z, .l (qs.map eQ) y] [eL (l.flatMap (img qs)) (l.flatMap (img qs)).isEmpty] := v172 (by
  unfold eL
  rw [← r172]
  refine ⟨fun s => ∃ i : Nat, s = [.l (qs.map eQ) y, eL ((l.take i).flatMap (img qs)) ((l.take i).flatMap (img qs)).isEmpty, eL l z, .i l.length, .i i] ∧ i ≤ l.length, fun s => match s with | [_, _, _, _, i] => l.length - i.toI.toNat | _ => 0, ⟨0, by simp [eL], by omega⟩, ?_⟩
  rintro s1 s4 s7 s8 s9 ⟨i, hs, hi⟩
  simp only [List.cons.injEq, and_true] at hs
  obtain ⟨rfl, rfl, rfl, rfl, rfl⟩ := hs
  simp only [toL_eL, toL_l, toI_i, toZ_eL, List.length_map, Int.toNat_natCast]
  refine selp (fun h => ?_) (fun h => ?_)
  · have hil : i < l.length := by simpa using h
    have hm : l[i] ∈ l := List.getElem_mem hil
    have w1 : IntKind.i64.wrap ((i : Int) + 1) = ((i + 1 : Nat) : Int) := by rw [wrap_id (by omega) (by omega)]; simp
    have hf : ((l.take i).flatMap (img qs)).length ≤ 3 * l.length := by
      have := flat_le (img qs) (l.take i) (fun n hn => h3 n (List.mem_of_mem_take hn))
      have : (l.take i).length ≤ l.length := by simp; omega
      omega
    have h3' := h3 _ hm
    simp only [getD_eN hil, fst_eN, snd_eN, toI_i, w1]
    refine ⟨by omega, trivial, selp (fun hk => ?_) (fun hk => ?_)⟩
    · have hk : l[i].1 = 0 := by simpa using hk
      obtain ⟨b1, b2⟩ := hq _ hm hk
      have hb : l[i].2.toNat < qs.length := by omega
      rw [img_var hk hb, toL_eL]
      refine ⟨⟨b1, b2⟩, ?_⟩
      simp only [List.length_map]
      refine ⟨⟨by omega, by omega⟩, trivial, ⟨i + 1, ?_, by omega⟩, by simp; omega⟩
      rw [flat_step hil]
      cases hh : img qs l[i] <;> simp [eL]
    · have hk : l[i].1 ≠ 0 := by simpa using hk
      simp only [List.length_cons, List.length_nil]
      refine ⟨⟨by omega, by omega⟩, trivial, ⟨i + 1, ?_, by omega⟩, by simp; omega⟩
      rw [flat_step hil]
      simp [eL, img, hk]
  · have : i = l.length := by simp at h; omega
    subst this
    simp [eL])
end Go.Pi.ForgetVc
