/- A part of a walk: Tidy3. -/
import Derived.Test.YtkcgbkijlnpoiaaTidy2
namespace Go.Pi.TidyVc
open Go Go.Pi Go.Proofs

def specOk (n : N) : Bool := (decide (0 ≤ n.1) && decide (n.1 ≤ 6)) && (decide (0 ≤ n.2) && decide (n.2 ≤ 5)) && !(n.1 != 0 && n.2 != 0)
theorem specOk_eq (n : N) : specOk n = okNode n := by
  unfold specOk okNode
  by_cases h : n.1 = 0
  · simp [h]
  · by_cases h2 : n.2 = 0
    · have : decide (0 ≤ n.1) = decide (1 ≤ n.1) := by simp; omega
      rw [this]
      simp [h, h2]
    · simp [h, h2]

def isT (l : List N) : Bool := l.all specOk && decide (0 < l.length) && decide (peI l 0 = l.length)

theorem s57 (l : List N) (z : Bool) (hl : l.length < 4294967296) : Sat Try.prog S57 57 [eL l z] [.b (isT l)] := v57 (by
  unfold eL
  rw [← r57]
  refine ⟨fun s => ∃ i : Nat, s = [eL l z, .i i] ∧ i ≤ l.length ∧ l.all specOk = (l.drop i).all specOk, fun s => match s with | [_, i] => l.length - i.toI.toNat | _ => 0, ⟨0, rfl, by omega, by simp⟩, ?_⟩
  rintro s0 s3 ⟨i, hs, hi, ht⟩
  simp only [List.cons.injEq, and_true] at hs
  obtain ⟨rfl, rfl⟩ := hs
  simp only [toL_eL, toI_i, List.length_map, Int.toNat_natCast]
  refine selp (fun h => ?_) (fun h => ?_)
  · have hil : i < l.length := by simpa using h
    have w1 : IntKind.i64.wrap ((i : Int) + 1) = ((i + 1 : Nat) : Int) := by rw [wrap_id (by omega) (by omega)]; simp
    rw [List.drop_eq_getElem_cons hil, List.all_cons] at ht
    rw [getD_eN hil, w1, fst_eN, snd_eN]
    have bad : specOk l[i] = false → [D.b false] = [D.b (isT l)] := by
      intro hb
      rw [hb, Bool.false_and] at ht
      simp [isT, ht]
    have next : specOk l[i] = true → (∃ i' : Nat, [eL l z, D.i ((i + 1 : Nat) : Int)] = [eL l z, .i i'] ∧ i' ≤ l.length ∧ l.all specOk = (l.drop i').all specOk) ∧ l.length - (i + 1) < l.length - i := by
      intro hb
      rw [hb, Bool.true_and] at ht
      exact ⟨⟨i + 1, rfl, by omega, ht⟩, by omega⟩
    refine ⟨⟨by omega, by omega⟩, _, e80 (s80 l[i].1 0 6), selp (fun h1 => ⟨⟨by omega, by omega⟩, _, e80 (s80 l[i].2 0 5), selp (fun h2 => ⟨⟨by omega, by omega⟩, selp (fun h3 => ⟨⟨by omega, by omega⟩, selp (fun h4 => bad ?_) (fun h4 => ⟨trivial, next ?_⟩)⟩) (fun h3 => ⟨trivial, next ?_⟩)⟩) (fun h2 => bad ?_)⟩) (fun h1 => bad ?_)⟩
    · simp only [toI_i] at h3 h4
      simp at h3 h4
      simp [specOk, h3, h4]
    · simp only [toI_i, toB_b] at h1 h2 h3 h4
      simp at h1 h2 h3 h4
      simp [specOk, h1, h2, h4]
    · simp only [toI_i, toB_b] at h1 h2 h3
      simp at h1 h2 h3
      simp [specOk, h1, h2, h3]
    · simp only [toB_b] at h2
      simp at h2
      simp [specOk]
      omega
    · simp only [toB_b] at h1
      simp at h1
      simp [specOk]
      omega
  · have hil : i = l.length := by simp at h; omega
    subst hil
    simp at ht
    refine selp (fun h => ⟨_, e122 (s122 l z 0 hl (by omega)), ?_⟩) (fun h => ?_)
    · have h0 : 0 < l.length := by simpa using h
      rw [toI_i]
      have : l.all specOk = true := by simpa using ht
      simp [isT, this, h0]
      rfl
    · have h0 : decide (0 < l.length) = false := by simpa using h
      rw [isT, h0]; simp)

theorem s34 (l : List N) (z : Bool) (hl : l.length < 4294967296) : Sat Try.prog S34 34 [eL l z] [.b (isF l)] := v34 (by
  have e : isF l = (decide (l.length ≤ 40) && isT l) := by
    unfold isF isT
    have : l.all specOk = l.all okNode := by congr 1; funext n; exact specOk_eq n
    rw [this]
    cases l.all okNode <;> cases decide (l.length ≤ 40) <;> simp [Nat.succ_le_iff]
  unfold eL
  rw [← r34, e]
  refine selp (fun h => ⟨_, e57 (s57 l z hl), ?_⟩) (fun h => ?_)
  · have h : l.length ≤ 40 := by simp at h; omega
    simp [h]
  · have h : ¬ l.length ≤ 40 := by simp at h; omega
    simp [h])

def cutN (l : List N) (a b : Nat) : List N := (l.take b).drop a
theorem cut_eN (l : List N) (a b : Nat) : cut (l.map eN) a b = (cutN l a b).map eN := by
  unfold cut cutN
  rw [Int.toNat_natCast, Int.toNat_natCast, ← List.map_take, ← List.map_drop]

theorem pe_le : ∀ (l : List N) (n k : Nat), pe l n = some k → k ≤ l.length
  | _, 0, k, h => by simp [pe] at h; omega
  | [], n + 1, k, h => by simp [pe] at h
  | x :: l, n + 1, k, h => by
    simp only [pe, Option.map_eq_some_iff] at h
    obtain ⟨a, h1, rfl⟩ := h
    have := pe_le l _ a h1
    simp; omega

theorem s129 (l : List N) (z : Bool) (i k : Nat) (hl : l.length < 4294967296) (hi : i ≤ l.length) (hk : pe (l.drop i) 1 = some k) : Sat Try.prog S129 129 [eL l z, .i i] [eL (cutN l i (i + k)) z] := v129 (by
  have hp : peI l i = ((i + k : Nat) : Int) := by unfold peI; rw [hk]
  have hk2 := pe_le _ _ _ hk
  rw [List.length_drop] at hk2
  have h1 := s100 l z i hl hi
  rw [hp] at h1
  unfold eL
  rw [← r129]
  refine ⟨_, e100 h1, _, e100 h1, ?_, ?_⟩
  · simp only [toI_i, List.length_map]
    omega
  · rw [toI_i, cut_eN])
theorem s73 (l : List N) (z : Bool) (k : Nat) (hl : l.length < 4294967296) (hi : 1 ≤ l.length) (hk : pe (l.drop 1) 1 = some k) : Sat Try.prog S73 73 [eL l z] [eL (cutN l 1 (1 + k)) z] := v73 (by
  unfold eL
  rw [← r73]
  exact ⟨_, e129 (s129 l z 1 k hl hi hk), rfl⟩)
theorem s74 (l : List N) (z : Bool) (k m : Nat) (hl : l.length < 4294967296) (hi : 1 ≤ l.length) (hk : pe (l.drop 1) 1 = some k) (hm : pe (l.drop (1 + k)) 1 = some m) : Sat Try.prog S74 74 [eL l z] [eL (cutN l (1 + k) (1 + k + m)) z] := v74 (by
  have hp : peI l 1 = ((1 + k : Nat) : Int) := by unfold peI; rw [hk]
  have hk2 := pe_le _ _ _ hk
  rw [List.length_drop] at hk2
  have h1 := s100 l z 1 hl hi
  rw [hp] at h1
  unfold eL
  rw [← r74]
  exact ⟨_, e100 h1, _, e129 (s129 l z (1 + k) m hl (by omega) hm), rfl⟩)
theorem s63 (l : List N) (z : Bool) (k : Nat) (hl : l.length < 4294967296) (hi : 1 ≤ l.length) (hk : pe (l.drop 1) 1 = some k) : Sat Try.prog S63 63 [eL l z] [eL (cutN l 1 (1 + k)) z] := v63 (by
  have hp : peI l 1 = ((1 + k : Nat) : Int) := by unfold peI; rw [hk]
  have hk2 := pe_le _ _ _ hk
  rw [List.length_drop] at hk2
  have h1 := s122 l z 1 hl hi
  rw [hp] at h1
  unfold eL
  rw [← r63]
  refine ⟨_, e122 h1, ?_, ?_⟩
  · simp only [toI_i, List.length_map]
    omega
  · rw [toI_i]
    exact congrArg (fun x => [D.l x z]) (cut_eN l 1 (1 + k)))
theorem s64 (l : List N) (z : Bool) (k : Nat) (hl : l.length < 4294967296) (hi : 1 ≤ l.length) (hk : pe (l.drop 1) 1 = some k) : Sat Try.prog S64 64 [eL l z] [eL (cutN l (1 + k) l.length) z] := v64 (by
  have hp : peI l 1 = ((1 + k : Nat) : Int) := by unfold peI; rw [hk]
  have hk2 := pe_le _ _ _ hk
  rw [List.length_drop] at hk2
  have h1 := s122 l z 1 hl hi
  rw [hp] at h1
  unfold eL
  rw [← r64]
  refine ⟨_, e122 h1, ?_, ?_⟩
  · simp only [toI_i, List.length_map]
    omega
  · rw [toI_i, List.length_map, cut_eN])
theorem s75 (l : List N) (z : Bool) (h : Sat Try.prog S76 76 [eL l z, eL [(4, 0), (1, 0), (1, 0)] false] [.b (decide (l = [(4, 0), (1, 0), (1, 0)]))]) : Sat Try.prog S75 75 [eL l z] [.b (decide (l = [(4, 0), (1, 0), (1, 0)]))] := v75 (by
  unfold eL
  rw [← r75]
  exact ⟨_, e77 s77, _, e76 h, rfl⟩)
theorem s78 (x : N) (l : List N) (z : Bool) : Sat Try.prog S78 78 [eL (x :: l) z] [.b (x.1 == 1)] := v78 (by
  unfold eL
  rw [← r78]
  simp only [List.length_map, List.length_cons]
  refine ⟨⟨by omega, by omega⟩, ?_⟩
  rfl)
end Go.Pi.TidyVc
