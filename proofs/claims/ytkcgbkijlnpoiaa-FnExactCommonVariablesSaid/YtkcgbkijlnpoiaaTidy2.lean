/- A part of a walk: Tidy2. -/
import Derived.Test.YtkcgbkijlnpoiaaTidy1
namespace Go.Pi.TidyVc
open Go Go.Pi Go.Proofs

/-- The place of the first that p holds of; or -1. -/
def ix {α : Type} (p : α → Bool) : List α → Int → Int
  | [], _ => -1
  | x :: r, k => if p x then k else ix p r (k + 1)

theorem ix_any {α : Type} (p : α → Bool) : ∀ (l : List α) (k : Int), 0 ≤ k → decide (ix p l k ≥ 0) = l.any p
  | [], k, _ => by simp [ix]
  | x :: r, k, hk => by
    unfold ix
    cases hp : p x with
    | true => simp [hp, hk]
    | false => simp [hp, ← ix_any p r (k + 1) (by omega)]

theorem getD_enc {α : Type} {enc : α → D} {l : List α} {i : Nat} (h : i < l.length) : (l.map enc).getD i D.u = enc l[i] := by
  simp [h]

theorem s140_98 {α : Type} (enc : α → D) (p : α → Bool) (l : List α) (z : Bool) (hs : ∀ x ∈ l, Sat Try.prog S98 98 [enc x] [.b (p x)]) (hl : l.length < 4294967296) :
    Sat Try.prog S140_98 140 [.l (l.map enc) z, .u] [.i (ix p l 0)] := v140_98 (by
  rw [← r140_98]
  refine ⟨fun s => ∃ i : Nat, s = [.l (l.map enc) z, .u, .i l.length, .i i] ∧ i ≤ l.length ∧ ix p l 0 = ix p (l.drop i) i, fun s => match s with | [_, _, _, i] => l.length - i.toI.toNat | _ => 0, ⟨0, by simp, by omega, by simp⟩, ?_⟩
  rintro s0 s1 s7 s8 ⟨i, hs', hi, ht⟩
  simp only [List.cons.injEq, and_true] at hs'
  obtain ⟨rfl, rfl, rfl, rfl⟩ := hs'
  simp only [toL_l, toI_i, List.length_map, Int.toNat_natCast]
  refine selp (fun h => ?_) (fun h => ?_)
  · have hil : i < l.length := by simpa using h
    have w1 : IntKind.i64.wrap ((i : Int) + 1) = ((i + 1 : Nat) : Int) := by rw [wrap_id (by omega) (by omega)]; simp
    rw [getD_enc hil, w1]
    rw [List.drop_eq_getElem_cons hil, ix] at ht
    refine ⟨⟨by omega, by omega⟩, _, e98 (hs _ (List.getElem_mem hil)), selp (fun h => ?_) (fun h => ⟨trivial, ⟨i + 1, rfl, by omega, ?_⟩, by omega⟩)⟩
    · rw [toB_b] at h
      rw [ht, if_pos h]
    · rw [toB_b] at h
      rw [ht, h]
      simp
  · have hil : i = l.length := by simp at h; omega
    subst hil
    simp [ht, ix])
theorem s97_98 {α : Type} (enc : α → D) (p : α → Bool) (l : List α) (z : Bool) (hs : ∀ x ∈ l, Sat Try.prog S98 98 [enc x] [.b (p x)]) (hl : l.length < 4294967296) :
    Sat Try.prog S97_98 97 [.l (l.map enc) z, .u] [.b (l.any p)] := v97_98 (by
  rw [← r97_98]
  exact ⟨_, e140_98 (s140_98 enc p l z hs hl), by rw [toI_i, ix_any p l 0 (by omega)]⟩)

def isF (l : List N) : Bool := decide (1 ≤ l.length) && decide (l.length ≤ 40) && l.all okNode && decide (peI l 0 = l.length)

theorem s45 (l : List N) (z : Bool) (hl : l.length < 4294967296) : Sat Try.prog S45 45 [eL l z] [.b (isF l)] := v45 (by
  unfold eL
  rw [← r45]
  have e1 : (decide (((l.map eN).length : Int) ≥ 1)) = decide (1 ≤ l.length) := by simp; omega
  have e2 : (decide (((l.map eN).length : Int) ≤ 40)) = decide (l.length ≤ 40) := by simp; omega
  rw [e1, e2]
  refine selp (fun h1 => selp (fun h2 => ⟨_, e97_98 (s97_98 eN (fun n => !okNode n) l z (fun n _ => s98 n) hl), selp (fun h3 => ⟨_, e100 (s100 l z 0 hl (by omega)), ?_⟩) (fun h3 => ?_)⟩) (fun h2 => ?_)) (fun h1 => ?_)
  · have h3 : l.all okNode = true := by rw [toB_b] at h3; rw [List.all_eq_not_any_not]; simpa using h3
    simp only [toI_i, List.length_map, isF]
    simp at h1 h2
    simp [h1, h2, h3]
    rfl
  · have h3 : l.all okNode = false := by rw [toB_b] at h3; rw [List.all_eq_not_any_not]; simpa using h3
    simp [isF, h3]
  · have h2 : decide (l.length ≤ 40) = false := by simpa using h2
    rw [isF, h2]; simp
  · have h1 : decide (1 ≤ l.length) = false := by simpa using h1
    rw [isF, h1]; simp)
theorem s124 (l : List N) (z : Bool) (hl : l.length < 4294967296) : Sat Try.prog S124 124 [eL l z] [.b (!isF l)] := v124 (by
  unfold eL
  rw [← r124]
  exact ⟨_, e45 (s45 l z hl), rfl⟩)
theorem s125_124 {α : Type} (enc : α → D) (p : α → Bool) (l : List α) (z : Bool) (hs : ∀ x ∈ l, Sat Try.prog S124 124 [enc x] [.b (p x)]) (hl : l.length < 4294967296) :
    Sat Try.prog S125_124 125 [.l (l.map enc) z, .u] [.i (ix p l 0)] := v125_124 (by
  rw [← r125_124]
  refine ⟨fun s => ∃ i : Nat, s = [.l (l.map enc) z, .u, .i l.length, .i i] ∧ i ≤ l.length ∧ ix p l 0 = ix p (l.drop i) i, fun s => match s with | [_, _, _, i] => l.length - i.toI.toNat | _ => 0, ⟨0, by simp, by omega, by simp⟩, ?_⟩
  rintro s0 s1 s7 s8 ⟨i, hs', hi, ht⟩
  simp only [List.cons.injEq, and_true] at hs'
  obtain ⟨rfl, rfl, rfl, rfl⟩ := hs'
  simp only [toL_l, toI_i, List.length_map, Int.toNat_natCast]
  refine selp (fun h => ?_) (fun h => ?_)
  · have hil : i < l.length := by simpa using h
    have w1 : IntKind.i64.wrap ((i : Int) + 1) = ((i + 1 : Nat) : Int) := by rw [wrap_id (by omega) (by omega)]; simp
    rw [getD_enc hil, w1]
    rw [List.drop_eq_getElem_cons hil, ix] at ht
    refine ⟨⟨by omega, by omega⟩, _, e124 (hs _ (List.getElem_mem hil)), selp (fun h => ?_) (fun h => ⟨trivial, ⟨i + 1, rfl, by omega, ?_⟩, by omega⟩)⟩
    · rw [toB_b] at h
      rw [ht, if_pos h]
    · rw [toB_b] at h
      rw [ht, h]
      simp
  · have hil : i = l.length := by simp at h; omega
    subst hil
    simp [ht, ix])
theorem s68_124 {α : Type} (enc : α → D) (p : α → Bool) (l : List α) (z : Bool) (hs : ∀ x ∈ l, Sat Try.prog S124 124 [enc x] [.b (p x)]) (hl : l.length < 4294967296) :
    Sat Try.prog S68_124 68 [.l (l.map enc) z, .u] [.b (l.any p)] := v68_124 (by
  rw [← r68_124]
  exact ⟨_, e125_124 (s125_124 enc p l z hs hl), by rw [toI_i, ix_any p l 0 (by omega)]⟩)
theorem s140_126 {α : Type} (enc : α → D) (p : α → Bool) (l : List α) (z : Bool) (hs : ∀ x ∈ l, Sat Try.prog S126 126 [enc x] [.b (p x)]) (hl : l.length < 4294967296) :
    Sat Try.prog S140_126 140 [.l (l.map enc) z, .u] [.i (ix p l 0)] := v140_126 (by
  rw [← r140_126]
  refine ⟨fun s => ∃ i : Nat, s = [.l (l.map enc) z, .u, .i l.length, .i i] ∧ i ≤ l.length ∧ ix p l 0 = ix p (l.drop i) i, fun s => match s with | [_, _, _, i] => l.length - i.toI.toNat | _ => 0, ⟨0, by simp, by omega, by simp⟩, ?_⟩
  rintro s0 s1 s7 s8 ⟨i, hs', hi, ht⟩
  simp only [List.cons.injEq, and_true] at hs'
  obtain ⟨rfl, rfl, rfl, rfl⟩ := hs'
  simp only [toL_l, toI_i, List.length_map, Int.toNat_natCast]
  refine selp (fun h => ?_) (fun h => ?_)
  · have hil : i < l.length := by simpa using h
    have w1 : IntKind.i64.wrap ((i : Int) + 1) = ((i + 1 : Nat) : Int) := by rw [wrap_id (by omega) (by omega)]; simp
    rw [getD_enc hil, w1]
    rw [List.drop_eq_getElem_cons hil, ix] at ht
    refine ⟨⟨by omega, by omega⟩, _, e126 (hs _ (List.getElem_mem hil)), selp (fun h => ?_) (fun h => ⟨trivial, ⟨i + 1, rfl, by omega, ?_⟩, by omega⟩)⟩
    · rw [toB_b] at h
      rw [ht, if_pos h]
    · rw [toB_b] at h
      rw [ht, h]
      simp
  · have hil : i = l.length := by simp at h; omega
    subst hil
    simp [ht, ix])
theorem s97_126 {α : Type} (enc : α → D) (p : α → Bool) (l : List α) (z : Bool) (hs : ∀ x ∈ l, Sat Try.prog S126 126 [enc x] [.b (p x)]) (hl : l.length < 4294967296) :
    Sat Try.prog S97_126 97 [.l (l.map enc) z, .u] [.b (l.any p)] := v97_126 (by
  rw [← r97_126]
  exact ⟨_, e140_126 (s140_126 enc p l z hs hl), by rw [toI_i, ix_any p l 0 (by omega)]⟩)

def eQ (q : List N × Bool) : D := eL q.1 q.2
theorem s67 (qs : List (List N × Bool)) (z : Bool) (hl : qs.length < 4294967296) (hq : ∀ q ∈ qs, q.1.length < 4294967296) : Sat Try.prog S67 67 [.l (qs.map eQ) z] [.b (qs.all fun q => isF q.1)] := v67 (by
  rw [← r67]
  refine ⟨_, e68_124 (s68_124 eQ (fun q => !isF q.1) qs z (fun q h => s124 q.1 q.2 (hq q h)) hl), ?_⟩
  rw [toB_b, List.all_eq_not_any_not])
def plainL (l : List N) : Bool := l.all fun n => n.1 != 5 && n.1 != 6
theorem s70 (l : List N) (z : Bool) (hl : l.length < 4294967296) : Sat Try.prog S70 70 [eL l z] [.b (plainL l)] := v70 (by
  unfold eL
  rw [← r70]
  refine ⟨_, e97_126 (s97_126 eN (fun n => n.1 == 5 || n.1 == 6) l z (fun n _ => s126 n) hl), ?_⟩
  rw [toB_b, plainL, List.all_eq_not_any_not]
  congr 4
  funext n
  simp [bne])
theorem s69 (l : List N) (z : Bool) (hl : l.length < 4294967296) : Sat Try.prog S69 69 [eL l z] [.b (!plainL l)] := v69 (by
  unfold eL
  rw [← r69]
  exact ⟨_, e70 (s70 l z hl), rfl⟩)
theorem s125_69 {α : Type} (enc : α → D) (p : α → Bool) (l : List α) (z : Bool) (hs : ∀ x ∈ l, Sat Try.prog S69 69 [enc x] [.b (p x)]) (hl : l.length < 4294967296) :
    Sat Try.prog S125_69 125 [.l (l.map enc) z, .u] [.i (ix p l 0)] := v125_69 (by
  rw [← r125_69]
  refine ⟨fun s => ∃ i : Nat, s = [.l (l.map enc) z, .u, .i l.length, .i i] ∧ i ≤ l.length ∧ ix p l 0 = ix p (l.drop i) i, fun s => match s with | [_, _, _, i] => l.length - i.toI.toNat | _ => 0, ⟨0, by simp, by omega, by simp⟩, ?_⟩
  rintro s0 s1 s7 s8 ⟨i, hs', hi, ht⟩
  simp only [List.cons.injEq, and_true] at hs'
  obtain ⟨rfl, rfl, rfl, rfl⟩ := hs'
  simp only [toL_l, toI_i, List.length_map, Int.toNat_natCast]
  refine selp (fun h => ?_) (fun h => ?_)
  · have hil : i < l.length := by simpa using h
    have w1 : IntKind.i64.wrap ((i : Int) + 1) = ((i + 1 : Nat) : Int) := by rw [wrap_id (by omega) (by omega)]; simp
    rw [getD_enc hil, w1]
    rw [List.drop_eq_getElem_cons hil, ix] at ht
    refine ⟨⟨by omega, by omega⟩, _, e69 (hs _ (List.getElem_mem hil)), selp (fun h => ?_) (fun h => ⟨trivial, ⟨i + 1, rfl, by omega, ?_⟩, by omega⟩)⟩
    · rw [toB_b] at h
      rw [ht, if_pos h]
    · rw [toB_b] at h
      rw [ht, h]
      simp
  · have hil : i = l.length := by simp at h; omega
    subst hil
    simp [ht, ix])
theorem s68_69 {α : Type} (enc : α → D) (p : α → Bool) (l : List α) (z : Bool) (hs : ∀ x ∈ l, Sat Try.prog S69 69 [enc x] [.b (p x)]) (hl : l.length < 4294967296) :
    Sat Try.prog S68_69 68 [.l (l.map enc) z, .u] [.b (l.any p)] := v68_69 (by
  rw [← r68_69]
  exact ⟨_, e125_69 (s125_69 enc p l z hs hl), by rw [toI_i, ix_any p l 0 (by omega)]⟩)

theorem s38 (l : List N) (z y : Bool) (hl : l.length < 4294967296) : Sat Try.prog S38 38 [.l [eL l z] y] [.i (if isF l then (if plainL l then 0 else 5) else 1)] := v38 (by
  rw [← r38]
  refine ⟨_, e67 (s67 [(l, z)] y (by simp) (by simpa using hl)), selp (fun h => ?_) (fun h => ⟨_, e68_69 (s68_69 eQ (fun q => !plainL q.1) [(l, z)] y (by intro q hq; simp at hq; subst hq; exact s69 l z hl) (by simp)), selp (fun h2 => ?_) (fun h2 => ?_)⟩)⟩
  · simp [toB_b] at h
    simp [h]
  · simp [toB_b] at h h2
    simp [h, h2]
  · simp [toB_b] at h h2
    simp [h, h2])
end Go.Pi.TidyVc
